/- Notes: the part of a letter. Conditions: what is handed over can be read. -/
import Derived.Test.YtijlkjbmjkmkfaaN3
namespace Go.Proofs
open Go Go.Bz

def GetOk (h : PH) (g : Value) (c : Lt) : Prop := ∀ h', h.le h' → ∀ b n u, Fx h' b (NO n) → NR h' n u → u.Fits → FCt Try.prog g [.pointer (some ⟨b, 0, none⟩)] h' [] (Fz fun v h'' => Bs h'' v (getL u c))
def SetOk (h : PH) (s : Value) (c : Lt) : Prop := ∀ h', h.le h' → ∀ b n u v l, NR h' n u → Bs h' v l → l.length < 1000000000000 →
  FCt Try.prog s [.pointer (some ⟨b, 0, none⟩), v] h' [(b, NO n)] (fun r h'' L'' => ∃ n', r = .bool (setL u c l).2 ∧ L'' = [(b, NO n')] ∧ NR h'' n' (setL u c l).1)
def PartOk (c : Lt) (r : Value) (h : PH) : Prop := ∃ g s, r = (PartM.mk g s).v ∧ GetOk h g c ∧ SetOk h s c
theorem PartOk.mono {c : Lt} {r : Value} {h h' : PH} (p : PartOk c r h) (le : h.le h') : PartOk c r h' := by
  obtain ⟨g, s, e, a, b⟩ := p
  exact ⟨g, s, e, fun h2 l2 => a h2 (PH.le_trans le l2), fun h2 l2 => b h2 (PH.le_trans le l2)⟩
theorem NR.len {h : PH} {n : NoteM} {u : NoteP} (_ : NR h n u) : True := trivial

theorem partA {h : PH} {bb : Nat} (hbb : Fx h bb (.cells [.func (.func 196) #[] #[]].toArray 318)) : PartOk .A (PartM.mk (clo 223 bb) (clo 224 bb)).v h := by
  refine ⟨_, _, rfl, fun h' le b n u hb hn hu => ⟨223, #[], #[.pointer (some ⟨bb, 0, none⟩)], rfl, inferInstance, ?_⟩, fun h' le b n u v l hn hv hl => ⟨224, #[], #[.pointer (some ⟨bb, 0, none⟩)], rfl, inferInstance, ?_⟩⟩
  · have := nameGet_ok h' _ 1 b bb n ofA_ok n.A hb (hbb.mono le) (by rw [hn.a]; exact hu.a)
    have e : n.A.data.toList = getL u .A := by rw [hn.a]; rfl
    rw [e] at this
    exact this

  · refine (nameSet_ok h' _ 1 b bb n (fun x => { n with A := x }) ofA_ok (hbb.mono le) v l hv hl).mono ?_
    rintro r h2 L2 le2 ⟨rfl, rfl⟩
    exact ⟨_, rfl, rfl, ⟨hn.k, rfl, hn.b, hn.x, hn.y, hn.p.mono le2, hn.q.mono le2, hn.r.mono le2⟩⟩

theorem partB {h : PH} {bb : Nat} (hbb : Fx h bb (.cells [.func (.func 197) #[] #[]].toArray 318)) : PartOk .B (PartM.mk (clo 223 bb) (clo 224 bb)).v h := by
  refine ⟨_, _, rfl, fun h' le b n u hb hn hu => ⟨223, #[], #[.pointer (some ⟨bb, 0, none⟩)], rfl, inferInstance, ?_⟩, fun h' le b n u v l hn hv hl => ⟨224, #[], #[.pointer (some ⟨bb, 0, none⟩)], rfl, inferInstance, ?_⟩⟩
  · have := nameGet_ok h' _ 2 b bb n ofB_ok n.B hb (hbb.mono le) (by rw [hn.b]; exact hu.b)
    have e : n.B.data.toList = getL u .B := by rw [hn.b]; rfl
    rw [e] at this
    exact this

  · refine (nameSet_ok h' _ 2 b bb n (fun x => { n with B := x }) ofB_ok (hbb.mono le) v l hv hl).mono ?_
    rintro r h2 L2 le2 ⟨rfl, rfl⟩
    exact ⟨_, rfl, rfl, ⟨hn.k, hn.a, rfl, hn.x, hn.y, hn.p.mono le2, hn.q.mono le2, hn.r.mono le2⟩⟩

theorem partX {h : PH} {bb : Nat} (hbb : Fx h bb (.cells [.func (.func 199) #[] #[]].toArray 321)) : PartOk .X (PartM.mk (clo 225 bb) (clo 226 bb)).v h := by
  refine ⟨_, _, rfl, fun h' le b n u hb hn hu => ⟨225, #[], #[.pointer (some ⟨bb, 0, none⟩)], rfl, inferInstance, ?_⟩, fun h' le b n u v l hn hv hl => ⟨226, #[], #[.pointer (some ⟨bb, 0, none⟩)], rfl, inferInstance, ?_⟩⟩
  · have := wordGet_ok h' _ 3 b bb n ofX_ok n.X hb (hbb.mono le) 
    have e : n.X.1 = getL u .X := by rw [hn.x]; rfl
    rw [e] at this
    exact this

  · refine (wordSet_ok h' _ 3 b bb n (fun x => { n with X := x }) ofX_ok (hbb.mono le) v l hv hl).mono ?_
    rintro r h2 L2 le2 ⟨rfl, rfl⟩
    exact ⟨_, rfl, rfl, ⟨hn.k, hn.a, hn.b, rfl, hn.y, hn.p.mono le2, hn.q.mono le2, hn.r.mono le2⟩⟩

theorem partY {h : PH} {bb : Nat} (hbb : Fx h bb (.cells [.func (.func 200) #[] #[]].toArray 321)) : PartOk .Y (PartM.mk (clo 225 bb) (clo 226 bb)).v h := by
  refine ⟨_, _, rfl, fun h' le b n u hb hn hu => ⟨225, #[], #[.pointer (some ⟨bb, 0, none⟩)], rfl, inferInstance, ?_⟩, fun h' le b n u v l hn hv hl => ⟨226, #[], #[.pointer (some ⟨bb, 0, none⟩)], rfl, inferInstance, ?_⟩⟩
  · have := wordGet_ok h' _ 19 b bb n ofY_ok n.Y hb (hbb.mono le) 
    have e : n.Y.1 = getL u .Y := by rw [hn.y]; rfl
    rw [e] at this
    exact this

  · refine (wordSet_ok h' _ 19 b bb n (fun x => { n with Y := x }) ofY_ok (hbb.mono le) v l hv hl).mono ?_
    rintro r h2 L2 le2 ⟨rfl, rfl⟩
    exact ⟨_, rfl, rfl, ⟨hn.k, hn.a, hn.b, hn.x, rfl, hn.p.mono le2, hn.q.mono le2, hn.r.mono le2⟩⟩

theorem partP {h : PH} {bb : Nat} (hbb : Fx h bb (.cells [.func (.func 202) #[] #[]].toArray 324)) : PartOk .P (PartM.mk (clo 227 bb) (clo 228 bb)).v h := by
  refine ⟨_, _, rfl, fun h' le b n u hb hn hu => ⟨227, #[], #[.pointer (some ⟨bb, 0, none⟩)], rfl, inferInstance, ?_⟩, fun h' le b n u v l hn hv hl => ⟨228, #[], #[.pointer (some ⟨bb, 0, none⟩)], rfl, inferInstance, ?_⟩⟩
  · have := blobGet_ok h' _ 35 b bb n ofP_ok n.P hb (hbb.mono le) (getL u .P) hn.p
    have e : getL u .P = getL u .P := rfl
    rw [e] at this
    exact this

  · refine (blobSet_ok h' _ 35 b bb n (fun x => { n with P := x }) ofP_ok (hbb.mono le) v l hv hl).mono ?_
    rintro r h2 L2 le2 ⟨rfl, s, hs, rfl⟩
    exact ⟨_, rfl, rfl, ⟨hn.k, hn.a, hn.b, hn.x, hn.y, hs, hn.q.mono le2, hn.r.mono le2⟩⟩

theorem partQ {h : PH} {bb : Nat} (hbb : Fx h bb (.cells [.func (.func 203) #[] #[]].toArray 324)) : PartOk .Q (PartM.mk (clo 227 bb) (clo 228 bb)).v h := by
  refine ⟨_, _, rfl, fun h' le b n u hb hn hu => ⟨227, #[], #[.pointer (some ⟨bb, 0, none⟩)], rfl, inferInstance, ?_⟩, fun h' le b n u v l hn hv hl => ⟨228, #[], #[.pointer (some ⟨bb, 0, none⟩)], rfl, inferInstance, ?_⟩⟩
  · have := blobGet_ok h' _ 36 b bb n ofQ_ok n.Q hb (hbb.mono le) (getL u .Q) hn.q
    have e : getL u .Q = getL u .Q := rfl
    rw [e] at this
    exact this

  · refine (blobSet_ok h' _ 36 b bb n (fun x => { n with Q := x }) ofQ_ok (hbb.mono le) v l hv hl).mono ?_
    rintro r h2 L2 le2 ⟨rfl, s, hs, rfl⟩
    exact ⟨_, rfl, rfl, ⟨hn.k, hn.a, hn.b, hn.x, hn.y, hn.p.mono le2, hs, hn.r.mono le2⟩⟩

theorem partR {h : PH} {bb : Nat} (hbb : Fx h bb (.cells [.func (.func 204) #[] #[]].toArray 324)) : PartOk .R (PartM.mk (clo 227 bb) (clo 228 bb)).v h := by
  refine ⟨_, _, rfl, fun h' le b n u hb hn hu => ⟨227, #[], #[.pointer (some ⟨bb, 0, none⟩)], rfl, inferInstance, ?_⟩, fun h' le b n u v l hn hv hl => ⟨228, #[], #[.pointer (some ⟨bb, 0, none⟩)], rfl, inferInstance, ?_⟩⟩
  · have := blobGet_ok h' _ 37 b bb n ofR_ok n.R hb (hbb.mono le) (getL u .R) hn.r
    have e : getL u .R = getL u .R := rfl
    rw [e] at this
    exact this

  · refine (blobSet_ok h' _ 37 b bb n (fun x => { n with R := x }) ofR_ok (hbb.mono le) v l hv hl).mono ?_
    rintro r h2 L2 le2 ⟨rfl, s, hs, rfl⟩
    exact ⟨_, rfl, rfl, ⟨hn.k, hn.a, hn.b, hn.x, hn.y, hn.p.mono le2, hn.q.mono le2, hs⟩⟩

theorem parted_ok (h : PH) (c : Lt) : Ct Try.prog 153 #[.int .i32 (c.code.toNat : Int)] h [] (Fz (PartOk c)) := by
  refine Ct.enter (n := 23) (rs := #[.cell 2 258]) Try.func153 rfl rfl rfl (by simp) ?_
  intro E hE
  rw [fr1]

  refine WS.seq fun K1 hK1 => ?_
  refine WS.region_lit ?_
  refine WO.chn rfl (Chn.alloc fun b2 => ?_)
  refine WO.nil ?_
  refine hK1 _ _ _ ?_
  clear hK1
  refine WS.seq fun K2 hK2 => ?_
  refine WS.seq fun K3 hK3 => ?_
  refine WS.region_lit ?_
  refine WO.yld (Yld.move EVx) ?_
  refine WO.nil ?_
  refine hK3 _ _ _ ?_
  clear hK3
  refine WS.blk fun X4 hX4 hY4 => ?_
  refine WS.seq fun K5 hK5 => ?_
  refine WS.region_lit ?_
  refine WO.yld (Yld.eqlI EVx (evo_const _ _)) ?_
  refine WO.yld (Yld.assign EVx) ?_
  refine WO.nil ?_
  refine hK5 _ _ _ ?_
  clear hK5
  -- @@ cond t4
  refine WS.cond EVx (fun c0 => ?_) (fun c0 => ?_)
  ·
    have e : c = .A := by revert c0; cases c <;> decide
    subst e
    refine WS.seq fun K6 hK6 => ?_
    refine WS.region_lit ?_
    refine WO.cZ rfl (Chn.callZ (evo_func _ _) (AC (evo_func _ _) AN) (name_mk _ _)) ?_
    rintro _ h6 le6 ⟨bb, rfl, hbb⟩
    refine WO.chn rfl (Chn.st EVx EVx Put.head ?_)
    refine WO.nil ?_
    refine hK6 _ _ _ ?_
    clear hK6
    refine WS.ret ?_
    refine FnEnd.mk0 (RV.one (RO.cellNE EVx (Cells.of (n := 2) At.head) Len.eq)) ?_
    -- @@ fin
    exact ⟨rfl, partA hbb⟩
  ·
    refine WS.seq fun K6 hK6 => ?_
    refine WS.region_lit ?_
    refine WO.yld (Yld.eqlI EVx (evo_const _ _)) ?_
    refine WO.yld (Yld.assign EVx) ?_
    refine WO.nil ?_
    refine hK6 _ _ _ ?_
    clear hK6
    -- @@ cond t7
    refine WS.cond EVx (fun c1 => ?_) (fun c1 => ?_)
    ·
      have e : c = .B := by revert c1; cases c <;> decide
      subst e
      refine WS.seq fun K7 hK7 => ?_
      refine WS.region_lit ?_
      refine WO.cZ rfl (Chn.callZ (evo_func _ _) (AC (evo_func _ _) AN) (name_mk _ _)) ?_
      rintro _ h9 le9 ⟨bb, rfl, hbb⟩
      refine WO.chn rfl (Chn.st EVx EVx Put.head ?_)
      refine WO.nil ?_
      refine hK7 _ _ _ ?_
      clear hK7
      refine WS.ret ?_
      refine FnEnd.mk0 (RV.one (RO.cellNE EVx (Cells.of (n := 2) At.head) Len.eq)) ?_
      -- @@ fin
      exact ⟨rfl, partB hbb⟩
    ·
      refine WS.seq fun K7 hK7 => ?_
      refine WS.region_lit ?_
      refine WO.yld (Yld.eqlI EVx (evo_const _ _)) ?_
      refine WO.yld (Yld.assign EVx) ?_
      refine WO.nil ?_
      refine hK7 _ _ _ ?_
      clear hK7
      -- @@ cond t10
      refine WS.cond EVx (fun c2 => ?_) (fun c2 => ?_)
      ·
        have e : c = .X := by revert c2; cases c <;> decide
        subst e
        refine WS.seq fun K8 hK8 => ?_
        refine WS.region_lit ?_
        refine WO.cZ rfl (Chn.callZ (evo_func _ _) (AC (evo_func _ _) AN) (word_mk _ _)) ?_
        rintro _ h12 le12 ⟨bb, rfl, hbb⟩
        refine WO.chn rfl (Chn.st EVx EVx Put.head ?_)
        refine WO.nil ?_
        refine hK8 _ _ _ ?_
        clear hK8
        refine WS.ret ?_
        refine FnEnd.mk0 (RV.one (RO.cellNE EVx (Cells.of (n := 2) At.head) Len.eq)) ?_
        -- @@ fin
        exact ⟨rfl, partX hbb⟩
      ·
        refine WS.seq fun K8 hK8 => ?_
        refine WS.region_lit ?_
        refine WO.yld (Yld.eqlI EVx (evo_const _ _)) ?_
        refine WO.yld (Yld.assign EVx) ?_
        refine WO.nil ?_
        refine hK8 _ _ _ ?_
        clear hK8
        -- @@ cond t13
        refine WS.cond EVx (fun c3 => ?_) (fun c3 => ?_)
        ·
          have e : c = .Y := by revert c3; cases c <;> decide
          subst e
          refine WS.seq fun K9 hK9 => ?_
          refine WS.region_lit ?_
          refine WO.cZ rfl (Chn.callZ (evo_func _ _) (AC (evo_func _ _) AN) (word_mk _ _)) ?_
          rintro _ h15 le15 ⟨bb, rfl, hbb⟩
          refine WO.chn rfl (Chn.st EVx EVx Put.head ?_)
          refine WO.nil ?_
          refine hK9 _ _ _ ?_
          clear hK9
          refine WS.ret ?_
          refine FnEnd.mk0 (RV.one (RO.cellNE EVx (Cells.of (n := 2) At.head) Len.eq)) ?_
          -- @@ fin
          exact ⟨rfl, partY hbb⟩
        ·
          refine WS.seq fun K9 hK9 => ?_
          refine WS.region_lit ?_
          refine WO.yld (Yld.eqlI EVx (evo_const _ _)) ?_
          refine WO.yld (Yld.assign EVx) ?_
          refine WO.nil ?_
          refine hK9 _ _ _ ?_
          clear hK9
          -- @@ cond t16
          refine WS.cond EVx (fun c4 => ?_) (fun c4 => ?_)
          ·
            have e : c = .P := by revert c4; cases c <;> decide
            subst e
            refine WS.seq fun K10 hK10 => ?_
            refine WS.region_lit ?_
            refine WO.cZ rfl (Chn.callZ (evo_func _ _) (AC (evo_func _ _) AN) (blob_mk _ _)) ?_
            rintro _ h18 le18 ⟨bb, rfl, hbb⟩
            refine WO.chn rfl (Chn.st EVx EVx Put.head ?_)
            refine WO.nil ?_
            refine hK10 _ _ _ ?_
            clear hK10
            refine WS.ret ?_
            refine FnEnd.mk0 (RV.one (RO.cellNE EVx (Cells.of (n := 2) At.head) Len.eq)) ?_
            -- @@ fin
            exact ⟨rfl, partP hbb⟩
          ·
            refine WS.seq fun K10 hK10 => ?_
            refine WS.region_lit ?_
            refine WO.yld (Yld.eqlI EVx (evo_const _ _)) ?_
            refine WO.yld (Yld.assign EVx) ?_
            refine WO.nil ?_
            refine hK10 _ _ _ ?_
            clear hK10
            -- @@ cond t19
            refine WS.cond EVx (fun c5 => ?_) (fun c5 => ?_)
            ·
              have e : c = .Q := by revert c5; cases c <;> decide
              subst e
              refine WS.seq fun K11 hK11 => ?_
              refine WS.region_lit ?_
              refine WO.cZ rfl (Chn.callZ (evo_func _ _) (AC (evo_func _ _) AN) (blob_mk _ _)) ?_
              rintro _ h21 le21 ⟨bb, rfl, hbb⟩
              refine WO.chn rfl (Chn.st EVx EVx Put.head ?_)
              refine WO.nil ?_
              refine hK11 _ _ _ ?_
              clear hK11
              refine WS.ret ?_
              refine FnEnd.mk0 (RV.one (RO.cellNE EVx (Cells.of (n := 2) At.head) Len.eq)) ?_
              -- @@ fin
              exact ⟨rfl, partQ hbb⟩
            ·
              refine WS.skip ?_
              refine hK2 _ _ _ ?_
              clear hK2
              refine WS.seq fun K11 hK11 => ?_
              refine WS.region_lit ?_
              refine WO.cZ rfl (Chn.callZ (evo_func _ _) (AC (evo_func _ _) AN) (blob_mk _ _)) ?_
              rintro _ h22 le22 ⟨bb, rfl, hbb⟩
              refine WO.chn rfl (Chn.st EVx EVx Put.head ?_)
              refine WO.nil ?_
              refine hK11 _ _ _ ?_
              clear hK11
              refine WS.ret ?_
              refine FnEnd.mk0 (RV.one (RO.cellNE EVx (Cells.of (n := 2) At.head) Len.eq)) ?_
              -- @@ fin
              have e : c = .R := by revert c0 c1 c2 c3 c4 c5; cases c <;> decide
              subst e
              exact ⟨rfl, partR hbb⟩
end Go.Proofs
