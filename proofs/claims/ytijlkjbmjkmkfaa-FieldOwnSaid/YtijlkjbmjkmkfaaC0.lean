/- From a slice of bytes that comes in to what the contracts ask for; from what they say to 'Below'. Conditions: those that each theorem names. -/
import Derived.Test.YtijlkjbmjkmkfaaS3
import Derived.Test.YtijlkjbmjkmkfaaRows
import Derived.WalkKit
import Derived.ProofKit
import Derived.OpenShut
import Derived.ShutString
import Derived.ChangeOld
import Derived.Below
namespace Go.Bz
open Go.ChangeAt Go.ChangeShapes Go.WideShapes Go.RowKit

def hp (w : World) : PH := fun b => w.heap[b]?
theorem hp_pre (w : World) : Pre (hp w) [] w := ⟨fun _ _ e => e, fun _ h => (by cases h), by simp, fun _ h => (by cases h)⟩
theorem Ct.top {P : Program} {k : FuncId} {args : Array Value} {w : World} {R : Value → PH → OL → Prop} (c : Ct P k args (hp w) [] R) :
    Calls P k args w fun e w' => ∃ v, e = .returned v ∧ Below w.heap.size w w' ∧ ∃ h' L', Sat ⟨w, hp w, []⟩ h' L' w' ∧ R v h' L' :=
  (c w (hp_pre w)).mono fun e w' ⟨v, h', L', he, s, r⟩ => ⟨v, he, ⟨s.os, s.tape, s.output, s.size, fun k hk => s.keep k hk (fun h => (by cases h))⟩, h', L', s, r⟩

/-- What came in as a slice of integers. -/
def IsRow (k : IntKind) (w : World) (a : Option Addr) (len cap : Nat) (zs : List Int) : Prop :=
  (a = none ∧ len = 0 ∧ cap = 0 ∧ zs = []) ∨
  ∃ x, a = some x ∧ x.spot = none ∧ len ≤ cap ∧ cap ≤ maxLen ∧ zs.length = cap ∧ (∀ i, i < zs.length → w.cell? (x.add i) = some (.int k (zs.getD i 0))) ∧ ∀ n ∈ zs, (Lit.int k n).wf = true

def bytesOf (zs : List Int) (len : Nat) : List UInt8 := (zs.take len).map byteOf
theorem IsRow.bs {w : World} {a : Option Addr} {len cap : Nat} {zs : List Int} (r : IsRow .u8 w a len cap zs) : Bs (hp w) (.slice a len cap) (bytesOf zs len) := by
  rcases r with ⟨rfl, rfl, rfl, rfl⟩ | ⟨⟨b, o, sp⟩, rfl, hs, hl, hm, hz, hcell, hwf⟩
  · exact Bs.nil _
  · simp only at hs
    subst hs
    have hlen : (bytesOf zs len).length = len := by simp [bytesOf]; omega
    refine ⟨by rw [bc_len, Nat.mul_one], .inr ⟨b, o, cap, by rw [hlen], by rw [hlen]; exact hl, hm, ?_⟩⟩
    by_cases h0 : len = 0
    · subst h0
      have : bytesOf zs 0 = [] := by simp [bytesOf]
      rw [this]
      exact ⟨Array.replicate o undef, 0, (0, 0), fun h => (h rfl).elim, by simp [bc], by simp [bc]⟩
    · have h1 := hcell 0 (by omega)
      unfold World.cell? at h1
      cases e : w.heap[b]? with
      | none => simp [Addr.add, e] at h1
      | some ob =>
        cases ob with
        | cells cs T fr =>
          have hget : ∀ i, i < zs.length → cs[o + i]? = some (.int .u8 (zs.getD i 0)) := by
            intro i hi
            have := hcell i hi
            rw [Addr.add_lit] at this
            unfold World.cell? at this
            simpa [e] using this
          have hsz : o + len ≤ cs.size := by
            have := hget (len - 1) (by omega)
            obtain ⟨h2, _⟩ := Array.getElem?_eq_some_iff.1 this
            omega
          refine ⟨cs, T, fr, fun _ => .inl e, by rw [bc_len, hlen]; exact hsz, ?_⟩
          rw [bc_len, hlen]
          apply List.ext_getElem?
          intro i
          rw [List.getElem?_take]
          by_cases hi : i < len
          · rw [if_pos hi, List.getElem?_drop, Array.getElem?_toList, hget i (by omega), bc_get (by omega)]
            have hzi : i < zs.length := by omega
            have hw := hwf (zs[i]) (List.getElem_mem _)
            have e1 : (bytesOf zs len).getD i 0 = byteOf zs[i] := by
              simp [bytesOf, List.getD, hi, hzi]
            have e2 : zs.getD i 0 = zs[i] := by simp [List.getD, hzi]
            rw [e1, e2, byteOf_nat]
            simp [Lit.wf, IntKind.min, IntKind.max, IntKind.signed, IntKind.bits] at hw
            congr 2
            omega
          · rw [if_neg hi, List.getElem?_eq_none (by rw [bc_len, hlen]; omega)]
        | _ => simp [Addr.add, e] at h1
end Go.Bz
