/- Notes: the functions that get and set their parts. Conditions: what is handed over can be read. -/
import Derived.Test.YtijlkjbmjkmkfaaB9
namespace Go.Proofs
open Go Go.Bz

instance (f1 f2 : Fn) (a1 a2 c1 c2 : Array Value) : OnesC (PartM.cells ⟨.func f1 a1 c1, .func f2 a2 c2⟩) := ⟨ones_cons rfl (ones_cons rfl ones_nil)⟩
def Fx (h : PH) (b : Nat) (o : Obj) : Prop := h b = some o
theorem Fx.mono {h h' : PH} {b : Nat} {o : Obj} (x : Fx h b o) (le : h.le h') : Fx h' b o := le b o x
abbrev ptr (b o : Nat) : Value := .pointer (some ⟨b, o, none⟩)
abbrev fnv (k : Nat) : Value := .func (.func k) #[] #[]
abbrev clo (k b : Nat) : Value := .func (.func k) #[] #[.pointer (some ⟨b, 0, none⟩)]
abbrev NO (n : NoteM) : Obj := .cells n.cells.toArray 35
/-- of tells the place of a field. -/
def OfOk (k off : Nat) : Prop := TFn Try.prog k ∧ ∀ (h : PH) (b : Nat), Ct Try.prog k #[.pointer (some ⟨b, 0, none⟩)] h [] (Pu (.pointer (some ⟨b, off, none⟩)))
theorem OfOk.f {k off : Nat} (o : OfOk k off) (h : PH) (b : Nat) : FCt Try.prog (.func (.func k) #[] #[]) [.pointer (some ⟨b, 0, none⟩)] h [] (Pu (.pointer (some ⟨b, off, none⟩))) := ⟨k, #[], #[], rfl, o.1, o.2 h b⟩

theorem ofA_ok : OfOk 196 1 := by
  refine ⟨inferInstance, fun h b => ?_⟩
  refine Ct.enter (n := 6) (rs := #[.tmp 2]) Try.func196 rfl rfl rfl (by simp) ?_
  intro E hE
  rw [fr1]
  refine WS.seq fun K1 hK1 => ?_
  refine WS.region_lit ?_
  refine WO.yld (Yld.assign (evo_const _ _)) ?_
  refine WO.nil ?_
  refine hK1 _ _ _ ?_
  clear hK1
  refine WS.seq fun K2 hK2 => ?_
  refine WS.region_lit ?_
  refine WO.yld (Yld.move EVx) ?_
  refine WO.yld (Yld.nilCheck EVx) ?_
  refine WO.yld (Yld.fieldAddrL (o' := 1) EVx rfl) ?_
  refine WO.yld (Yld.assign EVx) ?_
  refine WO.nil ?_
  refine hK2 _ _ _ ?_
  clear hK2
  refine WS.ret ?_
  refine FnEnd.mk0 (RV.one (RO.tmpE EVx)) ?_
  -- @@ fin
  exact ⟨rfl, rfl⟩

theorem ofB_ok : OfOk 197 2 := by
  refine ⟨inferInstance, fun h b => ?_⟩
  refine Ct.enter (n := 6) (rs := #[.tmp 2]) Try.func197 rfl rfl rfl (by simp) ?_
  intro E hE
  rw [fr1]
  refine WS.seq fun K1 hK1 => ?_
  refine WS.region_lit ?_
  refine WO.yld (Yld.assign (evo_const _ _)) ?_
  refine WO.nil ?_
  refine hK1 _ _ _ ?_
  clear hK1
  refine WS.seq fun K2 hK2 => ?_
  refine WS.region_lit ?_
  refine WO.yld (Yld.move EVx) ?_
  refine WO.yld (Yld.nilCheck EVx) ?_
  refine WO.yld (Yld.fieldAddrL (o' := 2) EVx rfl) ?_
  refine WO.yld (Yld.assign EVx) ?_
  refine WO.nil ?_
  refine hK2 _ _ _ ?_
  clear hK2
  refine WS.ret ?_
  refine FnEnd.mk0 (RV.one (RO.tmpE EVx)) ?_
  -- @@ fin
  exact ⟨rfl, rfl⟩

theorem ofX_ok : OfOk 199 3 := by
  refine ⟨inferInstance, fun h b => ?_⟩
  refine Ct.enter (n := 6) (rs := #[.tmp 2]) Try.func199 rfl rfl rfl (by simp) ?_
  intro E hE
  rw [fr1]
  refine WS.seq fun K1 hK1 => ?_
  refine WS.region_lit ?_
  refine WO.yld (Yld.assign (evo_const _ _)) ?_
  refine WO.nil ?_
  refine hK1 _ _ _ ?_
  clear hK1
  refine WS.seq fun K2 hK2 => ?_
  refine WS.region_lit ?_
  refine WO.yld (Yld.move EVx) ?_
  refine WO.yld (Yld.nilCheck EVx) ?_
  refine WO.yld (Yld.fieldAddrL (o' := 3) EVx rfl) ?_
  refine WO.yld (Yld.assign EVx) ?_
  refine WO.nil ?_
  refine hK2 _ _ _ ?_
  clear hK2
  refine WS.ret ?_
  refine FnEnd.mk0 (RV.one (RO.tmpE EVx)) ?_
  -- @@ fin
  exact ⟨rfl, rfl⟩

theorem ofY_ok : OfOk 200 19 := by
  refine ⟨inferInstance, fun h b => ?_⟩
  refine Ct.enter (n := 6) (rs := #[.tmp 2]) Try.func200 rfl rfl rfl (by simp) ?_
  intro E hE
  rw [fr1]
  refine WS.seq fun K1 hK1 => ?_
  refine WS.region_lit ?_
  refine WO.yld (Yld.assign (evo_const _ _)) ?_
  refine WO.nil ?_
  refine hK1 _ _ _ ?_
  clear hK1
  refine WS.seq fun K2 hK2 => ?_
  refine WS.region_lit ?_
  refine WO.yld (Yld.move EVx) ?_
  refine WO.yld (Yld.nilCheck EVx) ?_
  refine WO.yld (Yld.fieldAddrL (o' := 19) EVx rfl) ?_
  refine WO.yld (Yld.assign EVx) ?_
  refine WO.nil ?_
  refine hK2 _ _ _ ?_
  clear hK2
  refine WS.ret ?_
  refine FnEnd.mk0 (RV.one (RO.tmpE EVx)) ?_
  -- @@ fin
  exact ⟨rfl, rfl⟩

theorem ofP_ok : OfOk 202 35 := by
  refine ⟨inferInstance, fun h b => ?_⟩
  refine Ct.enter (n := 6) (rs := #[.tmp 2]) Try.func202 rfl rfl rfl (by simp) ?_
  intro E hE
  rw [fr1]
  refine WS.seq fun K1 hK1 => ?_
  refine WS.region_lit ?_
  refine WO.yld (Yld.assign (evo_const _ _)) ?_
  refine WO.nil ?_
  refine hK1 _ _ _ ?_
  clear hK1
  refine WS.seq fun K2 hK2 => ?_
  refine WS.region_lit ?_
  refine WO.yld (Yld.move EVx) ?_
  refine WO.yld (Yld.nilCheck EVx) ?_
  refine WO.yld (Yld.fieldAddrL (o' := 35) EVx rfl) ?_
  refine WO.yld (Yld.assign EVx) ?_
  refine WO.nil ?_
  refine hK2 _ _ _ ?_
  clear hK2
  refine WS.ret ?_
  refine FnEnd.mk0 (RV.one (RO.tmpE EVx)) ?_
  -- @@ fin
  exact ⟨rfl, rfl⟩

theorem ofQ_ok : OfOk 203 36 := by
  refine ⟨inferInstance, fun h b => ?_⟩
  refine Ct.enter (n := 6) (rs := #[.tmp 2]) Try.func203 rfl rfl rfl (by simp) ?_
  intro E hE
  rw [fr1]
  refine WS.seq fun K1 hK1 => ?_
  refine WS.region_lit ?_
  refine WO.yld (Yld.assign (evo_const _ _)) ?_
  refine WO.nil ?_
  refine hK1 _ _ _ ?_
  clear hK1
  refine WS.seq fun K2 hK2 => ?_
  refine WS.region_lit ?_
  refine WO.yld (Yld.move EVx) ?_
  refine WO.yld (Yld.nilCheck EVx) ?_
  refine WO.yld (Yld.fieldAddrL (o' := 36) EVx rfl) ?_
  refine WO.yld (Yld.assign EVx) ?_
  refine WO.nil ?_
  refine hK2 _ _ _ ?_
  clear hK2
  refine WS.ret ?_
  refine FnEnd.mk0 (RV.one (RO.tmpE EVx)) ?_
  -- @@ fin
  exact ⟨rfl, rfl⟩

theorem ofR_ok : OfOk 204 37 := by
  refine ⟨inferInstance, fun h b => ?_⟩
  refine Ct.enter (n := 6) (rs := #[.tmp 2]) Try.func204 rfl rfl rfl (by simp) ?_
  intro E hE
  rw [fr1]
  refine WS.seq fun K1 hK1 => ?_
  refine WS.region_lit ?_
  refine WO.yld (Yld.assign (evo_const _ _)) ?_
  refine WO.nil ?_
  refine hK1 _ _ _ ?_
  clear hK1
  refine WS.seq fun K2 hK2 => ?_
  refine WS.region_lit ?_
  refine WO.yld (Yld.move EVx) ?_
  refine WO.yld (Yld.nilCheck EVx) ?_
  refine WO.yld (Yld.fieldAddrL (o' := 37) EVx rfl) ?_
  refine WO.yld (Yld.assign EVx) ?_
  refine WO.nil ?_
  refine hK2 _ _ _ ?_
  clear hK2
  refine WS.ret ?_
  refine FnEnd.mk0 (RV.one (RO.tmpE EVx)) ?_
  -- @@ fin
  exact ⟨rfl, rfl⟩

theorem nameGet_ok (h : PH) (k off b bb : Nat) (n : NoteM) (of : OfOk k off) (str : ByteArray) [S : Seg n.cells off 1 [.string str]] (hb : Fx h b (NO n)) (hbb : Fx h bb (.cells [.func (.func k) #[] #[]].toArray 318)) (hl : str.size < 1000000000000) :
    Ct Try.prog 223 #[.pointer (some ⟨b, 0, none⟩), .pointer (some ⟨bb, 0, none⟩)] h [] (Fz fun v h' => Bs h' v str.data.toList) := by
  refine Ct.enter (n := 10) (rs := #[.tmp 3]) Try.func223 rfl rfl rfl (by simp) ?_
  intro E hE
  rw [fr2]

  refine WS.seq fun K1 hK1 => ?_
  refine WS.region_lit ?_
  refine WO.yld (Yld.assign (evo_const _ _)) ?_
  refine WO.nil ?_
  refine hK1 _ _ _ ?_
  clear hK1
  refine WS.seq fun K2 hK2 => ?_
  refine WS.region_lit ?_
  refine WO.yld (Yld.ld1 EVx (At.h hbb)) ?_
  refine WO.yld (Yld.move EVx) ?_
  refine WO.cZ rfl (Chn.callFZ EVx (AC EVx AN) ((of.f _ _).pz)) ?_
  rintro _ h6 le6 rfl
  replace hb := hb.mono le6
  replace hbb := hbb.mono le6
  refine WO.yld (Yld.nilCheck EVx) ?_
  refine WO.yld (Yld.ld1 EVx (At.h hb)) ?_
  -- @@ op: t9 := convert 9 22 t8 : T22   info {8: None}
  refine WO.chn rfl (Chn.toBytes EVx (by omega) fun v9 h9 le9 hb9 => ?_)
  replace hb := hb.mono le9
  replace hbb := hbb.mono le9
  refine WO.yld (Yld.assign EVx) ?_
  refine WO.nil ?_
  refine hK2 _ _ _ ?_
  clear hK2
  refine WS.ret ?_
  refine FnEnd.mk0 (RV.one (RO.tmpE EVx)) ?_
  -- @@ fin
  exact ⟨rfl, hb9⟩

theorem nameSet_ok (h : PH) (k off b bb : Nat) (n : NoteM) (n' : ByteArray → NoteM) (of : OfOk k off) [S : ∀ x, Spl n.cells off [.string x] (n' x).cells] (hbb : Fx h bb (.cells [.func (.func k) #[] #[]].toArray 318)) (v : Value) (l : List UInt8) (hv : Bs h v l) (hl : l.length < 1000000000000) :
    Ct Try.prog 224 #[.pointer (some ⟨b, 0, none⟩), v, .pointer (some ⟨bb, 0, none⟩)] h [(b, NO n)] (fun u h'' L'' => u = .bool (nameOk l) ∧ L'' = [(b, NO (n' ⟨l.toArray⟩))]) := by
  refine Ct.enter (n := 15) (rs := #[.tmp 5]) Try.func224 rfl rfl rfl (by simp) ?_
  intro E hE
  rw [fr3]

  refine WS.seq fun K1 hK1 => ?_
  refine WS.region_lit ?_
  refine WO.yld (Yld.assign (evo_const _ _)) ?_
  refine WO.nil ?_
  refine hK1 _ _ _ ?_
  clear hK1
  refine WS.seq fun K2 hK2 => ?_
  refine WS.draw [6] [(0, 1), (1, 2), (3, 2), (4, 1), (2, 0), (5, 2), (6, 0)] _ (by kernel_rfl) (by kernel_rfl) (by decide) (fun _ hm => hm) ?_
  refine WPl.rd rfl (Yld.ld1 EVx (At.h hbb)) ?_
  refine WPl.wl rfl (Yld.move EVx) ?_
  refine WPl.wl rfl (Yld.move EVx) ?_
  refine WPl.rd rfl (Yld.toStr EVx (Bs.up hv)) ?_
  refine WPl.cZ rfl (Chn.callFZ EVx (AC EVx AN) ((of.f _ _).pz)) ⟨PH.le_refl _, fun _ hm => hm⟩ ?_
  rintro _ h8 le8 rfl
  have hv_1 := hv.mono le8
  have hbb_1 := hbb.mono le8
  refine WPl.wl rfl (Yld.nilCheck EVx) ?_
  refine WPl.chn rfl (Chn.st EVx EVx Put.head ⟨.inl rfl, ?_⟩)
  refine WPl.nil ?_
  refine hK2 _ _ _ ?_
  clear hK2
  refine WS.seq fun K3 hK3 => ?_
  refine WS.region_lit ?_
  refine WO.yld (Yld.move EVx) ?_
  refine WO.yld (Yld.toStr EVx (Bs.up hv_1)) ?_
  refine WO.cZ rfl (Chn.callZ (evo_func _ _) (AC EVx AN) ((name_pu _ _ (by simpa [ByteArray.size] using hl)).pz)) ?_
  rintro _ h14 le14 rfl
  replace hv_1 := hv_1.mono le14
  replace hbb_1 := hbb_1.mono le14
  refine WO.yld (Yld.assign EVx) ?_
  refine WO.nil ?_
  refine hK3 _ _ _ ?_
  clear hK3
  refine WS.ret ?_
  refine FnEnd.mk (RV.one (RO.tmpE EVx)) ?_
  -- @@ fin
  exact ⟨rfl, rfl⟩

theorem name_mk (h : PH) (k : Nat) : Ct Try.prog 195 #[.func (.func k) #[] #[]] h [] (Fz fun u h' => ∃ bb, u = (PartM.mk (clo 223 bb) (clo 224 bb)).v ∧ Fx h' bb (.cells [.func (.func k) #[] #[]].toArray 318)) := by
  refine Ct.enter (n := 6) (rs := #[.cell 2 258]) Try.func195 rfl rfl rfl (by simp) ?_
  intro E hE
  rw [fr1]
  refine WS.seq fun K1 hK1 => ?_
  refine WS.region_lit ?_
  refine WO.chn rfl (Chn.bx EVx fun b1 => ?_)
  refine WO.chn rfl (Chn.alloc fun b2 => ?_)
  refine WO.nil ?_
  refine hK1 _ _ _ ?_
  clear hK1
  refine WS.perm (List.Perm.swap _ _ _) (WS.freeze fun hbn => ?_)
  have hbb : Fx (h.add b1 (.cells [.func (.func k) #[] #[]].toArray 318)) b1 (.cells [.func (.func k) #[] #[]].toArray 318) := PH.add_same _ _ _
  refine WS.seq fun K2 hK2 => ?_
  refine WS.region_lit ?_
  refine WO.yld (Yld.makeFunc (map_evo AN) (map_evo (AC EVx AN))) ?_
  refine WO.yld (Yld.makeFunc (map_evo AN) (map_evo (AC EVx AN))) ?_
  refine WO.yld (Yld.build (Fills.cons rfl EVx (Fills.cons rfl EVx Fills.nil))) ?_
  refine WO.chn rfl (Chn.st EVx EVx Put.head ?_)
  refine WO.nil ?_
  refine hK2 _ _ _ ?_
  clear hK2
  refine WS.ret ?_
  refine FnEnd.mk0 (RV.one (RO.cellNE EVx (Cells.of (n := 2) At.head) Len.eq)) ?_
  -- @@ fin
  exact ⟨rfl, b1, rfl, hbb⟩

theorem wordGet_ok (h : PH) (k off b bb : Nat) (n : NoteM) (of : OfOk k off) (str : AB 16) [S : Seg n.cells off 16 (AB.cells str)] (hb : Fx h b (NO n)) (hbb : Fx h bb (.cells [.func (.func k) #[] #[]].toArray 321))  :
    Ct Try.prog 225 #[.pointer (some ⟨b, 0, none⟩), .pointer (some ⟨bb, 0, none⟩)] h [] (Fz fun v h' => Bs h' v str.1) := by
  refine Ct.enter (n := 9) (rs := #[.tmp 3]) Try.func225 rfl rfl rfl (by simp) ?_
  intro E hE
  rw [fr2]

  refine WS.seq fun K1 hK1 => ?_
  refine WS.region_lit ?_
  refine WO.yld (Yld.assign (evo_const _ _)) ?_
  refine WO.nil ?_
  refine hK1 _ _ _ ?_
  clear hK1
  refine WS.seq fun K2 hK2 => ?_
  refine WS.region_lit ?_
  refine WO.yld (Yld.ld1 EVx (At.h hbb)) ?_
  refine WO.yld (Yld.move EVx) ?_
  refine WO.cZ rfl (Chn.callFZ EVx (AC EVx AN) ((of.f _ _).pz)) ?_
  rintro _ h6 le6 rfl
  replace hb := hb.mono le6
  replace hbb := hbb.mono le6
  refine WO.yld (Yld.nilCheck EVx) ?_
  -- @@ op: t8 := slice 33 t7 none none none : T22   info {7: {'k': 'hp', 'b': 'b', 'o': 'off', 'at': 'hb'}}
  refine WO.yld (Yld.sliceA EVx (by decide)) ?_
  refine WO.yld (Yld.assign EVx) ?_
  refine WO.nil ?_
  refine hK2 _ _ _ ?_
  clear hK2
  refine WS.ret ?_
  refine FnEnd.mk0 (RV.one (RO.tmpE EVx)) ?_
  -- @@ fin
  exact ⟨rfl, Bs.arr hb (by simp [maxLen])⟩

theorem wordSet_ok (h : PH) (k off b bb : Nat) (n : NoteM) (n' : AB 16 → NoteM) (of : OfOk k off) [S : ∀ x, Spl n.cells off (AB.cells x) (n' x).cells] (hbb : Fx h bb (.cells [.func (.func k) #[] #[]].toArray 321)) (v : Value) (l : List UInt8) (hv : Bs h v l) (hl : l.length < 1000000000000) :
    Ct Try.prog 226 #[.pointer (some ⟨b, 0, none⟩), v, .pointer (some ⟨bb, 0, none⟩)] h [(b, NO n)] (fun u h'' L'' => u = .bool (decide (l.length = 16)) ∧ L'' = [(b, NO (n' (wordOf l)))]) := by
  refine Ct.enter (n := 20) (rs := #[.tmp 5]) Try.func226 rfl rfl rfl (by simp) ?_
  intro E hE
  rw [fr3]

  refine WS.seq fun K1 hK1 => ?_
  refine WS.region_lit ?_
  refine WO.yld (Yld.assign (evo_const _ _)) ?_
  refine WO.nil ?_
  refine hK1 _ _ _ ?_
  clear hK1
  refine WS.seq fun K2 hK2 => ?_
  refine WS.region_lit ?_
  refine WO.yld (Yld.move EVx) ?_
  refine WO.cZ rfl (Chn.callZ (evo_func _ _) (AC EVx AN) ((word_pu _ _ _ hv hl).pz)) ?_
  rintro _ h10 le10 rfl
  replace hv := hv.mono le10
  replace hbb := hbb.mono le10
  refine WO.yld (Yld.move EVx) ?_
  refine WO.yld (Yld.ext0 EVx) ?_
  refine WO.yld (Yld.ext1 EVx) ?_
  refine WO.chn rfl (Chn.alloc fun b6 => ?_)
  refine WO.chn rfl (Chn.st EVx EVx Put.head ?_)
  refine WO.yld (Yld.assign EVx) ?_
  refine WO.nil ?_
  refine hK2 _ _ _ ?_
  clear hK2
  refine WS.seq fun K3 hK3 => ?_
  refine WS.draw [5] [(0, 1), (1, 2), (3, 1), (2, 0), (4, 2), (5, 0)] _ (by kernel_rfl) (by kernel_rfl) (by decide) (fun _ hm => hm) ?_
  refine WPl.rd rfl (Yld.ld1 EVx (At.h hbb)) ?_
  refine WPl.wl rfl (Yld.move EVx) ?_
  refine WPl.rd rfl (Yld.ldN EVx At.head) ?_
  refine WPl.cZ rfl (Chn.callFZ EVx (AC EVx AN) ((of.f _ _).pz)) ⟨PH.le_refl _, fun _ hm => hm⟩ ?_
  rintro _ h15 le15 rfl
  have hv_1 := hv.mono le15
  have hbb_1 := hbb.mono le15
  refine WPl.wl rfl (Yld.nilCheck EVx) ?_
  refine WPl.chn rfl (Chn.st EVx EVx (Put.tail Put.head) ⟨.inl rfl, ?_⟩)
  refine WPl.nil ?_
  refine hK3 _ _ _ ?_
  clear hK3
  refine WS.seq fun K4 hK4 => ?_
  refine WS.region_lit ?_
  refine WO.yld (Yld.move EVx) ?_
  refine WO.yld (Yld.eqlI EVx (evo_const _ _)) ?_
  refine WO.yld (Yld.assign EVx) ?_
  refine WO.nil ?_
  refine hK4 _ _ _ ?_
  clear hK4
  refine WS.ret ?_
  refine FnEnd.mk1 [(b, NO (n' (wordOf l)))] [(b6, .cells (wordOf l).cells.toArray 33)] (List.Perm.swap _ _ _) (RV.one (RO.tmpE EVx)) ?_
  -- @@ fin
  refine ⟨?_, rfl⟩
  by_cases c : l.length = 16
  · rw [if_pos c, decide_eq_true c]; rfl
  · rw [if_neg c, decide_eq_false c]; rfl

theorem word_mk (h : PH) (k : Nat) : Ct Try.prog 198 #[.func (.func k) #[] #[]] h [] (Fz fun u h' => ∃ bb, u = (PartM.mk (clo 225 bb) (clo 226 bb)).v ∧ Fx h' bb (.cells [.func (.func k) #[] #[]].toArray 321)) := by
  refine Ct.enter (n := 6) (rs := #[.cell 2 258]) Try.func198 rfl rfl rfl (by simp) ?_
  intro E hE
  rw [fr1]
  refine WS.seq fun K1 hK1 => ?_
  refine WS.region_lit ?_
  refine WO.chn rfl (Chn.bx EVx fun b1 => ?_)
  refine WO.chn rfl (Chn.alloc fun b2 => ?_)
  refine WO.nil ?_
  refine hK1 _ _ _ ?_
  clear hK1
  refine WS.perm (List.Perm.swap _ _ _) (WS.freeze fun hbn => ?_)
  have hbb : Fx (h.add b1 (.cells [.func (.func k) #[] #[]].toArray 321)) b1 (.cells [.func (.func k) #[] #[]].toArray 321) := PH.add_same _ _ _
  refine WS.seq fun K2 hK2 => ?_
  refine WS.region_lit ?_
  refine WO.yld (Yld.makeFunc (map_evo AN) (map_evo (AC EVx AN))) ?_
  refine WO.yld (Yld.makeFunc (map_evo AN) (map_evo (AC EVx AN))) ?_
  refine WO.yld (Yld.build (Fills.cons rfl EVx (Fills.cons rfl EVx Fills.nil))) ?_
  refine WO.chn rfl (Chn.st EVx EVx Put.head ?_)
  refine WO.nil ?_
  refine hK2 _ _ _ ?_
  clear hK2
  refine WS.ret ?_
  refine FnEnd.mk0 (RV.one (RO.cellNE EVx (Cells.of (n := 2) At.head) Len.eq)) ?_
  -- @@ fin
  exact ⟨rfl, b1, rfl, hbb⟩

theorem blobGet_ok (h : PH) (k off b bb : Nat) (n : NoteM) (of : OfOk k off) (str : SV) [S : Seg n.cells off 1 [SV.v str]] (hb : Fx h b (NO n)) (hbb : Fx h bb (.cells [.func (.func k) #[] #[]].toArray 324)) (l : List UInt8) (hbs : Bs h str.v l) :
    Ct Try.prog 227 #[.pointer (some ⟨b, 0, none⟩), .pointer (some ⟨bb, 0, none⟩)] h [] (Fz fun v h' => Bs h' v l) := by
  refine Ct.enter (n := 9) (rs := #[.tmp 3]) Try.func227 rfl rfl rfl (by simp) ?_
  intro E hE
  rw [fr2]

  refine WS.seq fun K1 hK1 => ?_
  refine WS.region_lit ?_
  refine WO.yld (Yld.assign (evo_const _ _)) ?_
  refine WO.nil ?_
  refine hK1 _ _ _ ?_
  clear hK1
  refine WS.seq fun K2 hK2 => ?_
  refine WS.region_lit ?_
  refine WO.yld (Yld.ld1 EVx (At.h hbb)) ?_
  refine WO.yld (Yld.move EVx) ?_
  refine WO.cZ rfl (Chn.callFZ EVx (AC EVx AN) ((of.f _ _).pz)) ?_
  rintro _ h6 le6 rfl
  replace hb := hb.mono le6
  replace hbb := hbb.mono le6
  replace hbs := hbs.mono le6
  refine WO.yld (Yld.nilCheck EVx) ?_
  refine WO.yld (Yld.ld1 EVx (At.h hb)) ?_
  refine WO.yld (Yld.assign EVx) ?_
  refine WO.nil ?_
  refine hK2 _ _ _ ?_
  clear hK2
  refine WS.ret ?_
  refine FnEnd.mk0 (RV.one (RO.tmpE EVx)) ?_
  -- @@ fin
  exact ⟨rfl, hbs⟩

theorem blobSet_ok (h : PH) (k off b bb : Nat) (n : NoteM) (n' : SV → NoteM) (of : OfOk k off) [S : ∀ x, Spl n.cells off [SV.v x] (n' x).cells] (hbb : Fx h bb (.cells [.func (.func k) #[] #[]].toArray 324)) (v : Value) (l : List UInt8) (hv : Bs h v l) (hl : l.length < 1000000000000) :
    Ct Try.prog 228 #[.pointer (some ⟨b, 0, none⟩), v, .pointer (some ⟨bb, 0, none⟩)] h [(b, NO n)] (fun u h'' L'' => u = .bool true ∧ ∃ s : SV, Bs h'' s.v l ∧ L'' = [(b, NO (n' s))]) := by
  refine Ct.enter (n := 12) (rs := #[.tmp 5]) Try.func228 rfl rfl rfl (by simp) ?_
  intro E hE
  rw [fr3]

  refine WS.seq fun K1 hK1 => ?_
  refine WS.region_lit ?_
  refine WO.yld (Yld.assign (evo_const _ _)) ?_
  refine WO.nil ?_
  refine hK1 _ _ _ ?_
  clear hK1
  refine WS.seq fun K2 hK2 => ?_
  refine WS.region_lit ?_
  refine WO.yld (Yld.ld1 EVx (At.h hbb)) ?_
  refine WO.yld (Yld.move EVx) ?_
  refine WO.cZ rfl (Chn.callFZ EVx (AC EVx AN) ((of.f _ _).pz)) ?_
  rintro _ h8 le8 rfl
  replace hv := hv.mono le8
  replace hbb := hbb.mono le8
  refine WO.yld (Yld.move EVx) ?_
  refine WO.cZ rfl (Chn.callZ (evo_func _ _) (AC EVx AN) (clone_z _ _ _ hv hl)) ?_
  rintro _ h10 le10 ⟨s10, rfl, hs10⟩
  replace hv := hv.mono le10
  replace hbb := hbb.mono le10
  refine WO.yld (Yld.nilCheck EVx) ?_
  refine WO.chn rfl (Chn.st EVx EVx Put.head ?_)
  refine WO.nil ?_
  refine hK2 _ _ _ ?_
  clear hK2
  refine WS.seq fun K3 hK3 => ?_
  refine WS.region_lit ?_
  refine WO.yld (Yld.assign (evo_const _ _)) ?_
  refine WO.nil ?_
  refine hK3 _ _ _ ?_
  clear hK3
  refine WS.ret ?_
  refine FnEnd.mk (RV.one (RO.tmpE EVx)) ?_
  -- @@ fin
  exact ⟨rfl, s10, hs10, rfl⟩

theorem blob_mk (h : PH) (k : Nat) : Ct Try.prog 201 #[.func (.func k) #[] #[]] h [] (Fz fun u h' => ∃ bb, u = (PartM.mk (clo 227 bb) (clo 228 bb)).v ∧ Fx h' bb (.cells [.func (.func k) #[] #[]].toArray 324)) := by
  refine Ct.enter (n := 6) (rs := #[.cell 2 258]) Try.func201 rfl rfl rfl (by simp) ?_
  intro E hE
  rw [fr1]
  refine WS.seq fun K1 hK1 => ?_
  refine WS.region_lit ?_
  refine WO.chn rfl (Chn.bx EVx fun b1 => ?_)
  refine WO.chn rfl (Chn.alloc fun b2 => ?_)
  refine WO.nil ?_
  refine hK1 _ _ _ ?_
  clear hK1
  refine WS.perm (List.Perm.swap _ _ _) (WS.freeze fun hbn => ?_)
  have hbb : Fx (h.add b1 (.cells [.func (.func k) #[] #[]].toArray 324)) b1 (.cells [.func (.func k) #[] #[]].toArray 324) := PH.add_same _ _ _
  refine WS.seq fun K2 hK2 => ?_
  refine WS.region_lit ?_
  refine WO.yld (Yld.makeFunc (map_evo AN) (map_evo (AC EVx AN))) ?_
  refine WO.yld (Yld.makeFunc (map_evo AN) (map_evo (AC EVx AN))) ?_
  refine WO.yld (Yld.build (Fills.cons rfl EVx (Fills.cons rfl EVx Fills.nil))) ?_
  refine WO.chn rfl (Chn.st EVx EVx Put.head ?_)
  refine WO.nil ?_
  refine hK2 _ _ _ ?_
  clear hK2
  refine WS.ret ?_
  refine FnEnd.mk0 (RV.one (RO.cellNE EVx (Cells.of (n := 2) At.head) Len.eq)) ?_
  -- @@ fin
  exact ⟨rfl, b1, rfl, hbb⟩

end Go.Proofs
