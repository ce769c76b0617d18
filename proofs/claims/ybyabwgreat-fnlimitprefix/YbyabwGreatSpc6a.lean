/- spec.RefCompile: what it holds on its way -/
import Derived.Test.YbyabwGreatCmpT
import Derived.Test.YbyabwGreatCmpP5
import Derived.Test.YbyabwGreatSpc5
import Derived.Test.YbyabwGreatStI
namespace Go.Proofs.YbyabwGreat
open Go.RowKit
set_option maxRecDepth 100000
set_option linter.unusedVariables false
set_option linter.unusedSimpArgs false

structure EZ (w wr : World) (cs : List Value) (nd : List Nd) (hb hcap : Nat) : Prop where
  ci : CI w wr cs
  hz : OwnZ wr (w.heap.size + 2) (.slice (some ⟨hb, 0, none⟩) nd.length hcap) (toL hcN nd nd.length)
section
variable {w wr w2 : World} {cs : List Value} {nd : List Nd} {hb hcap : Nat}
theorem EZ.fr {t : TypeId} (h : EZ w wr cs nd hb hcap) (hf : FrT t (w.heap.size + 2) wr w2) (h1 : 4 ≠ t) : EZ w w2 cs nd hb hcap := ⟨h.ci.fr hf, hf.row h.hz h1⟩
theorem EZ.ext (h : EZ w wr cs nd hb hcap) (he : Ext wr w2) : EZ w w2 cs nd hb hcap := ⟨h.ci.ext he, h.hz.ext he⟩
theorem CI.grownB (h : CI w wr cs) {B : Nat} (hg : wr.grownBy w2 (some B)) (hB : w.heap.size + 2 ≤ B) : CI w w2 cs := h.but (S := fun q => q = B) (But.of_grown hg (fun q hq => by cases hq; rfl)) (fun k hk => by omega)
end
theorem chN_len (n : Nd) : (chN n).length ≤ 2 := by
  unfold chN
  split
  · simp
  · split <;> simp
theorem chTo_len (nd : List Nd) (k : Nat) : (chTo nd k).length ≤ 2 * k := by
  induction k with
  | zero => simp [chTo]
  | succ k ih =>
    have := chN_len (nd.getD k nd0)
    simp only [chTo, List.length_append]
    omega
theorem whR_len (wh : Int) : (whR wh).length ≤ 1 := by unfold whR; split <;> simp
theorem itsR_len (its : List (Int × Int)) : (itsR its).length ≤ its.length := by
  induction its with
  | nil => simp [itsR]
  | cons a l ih =>
    have h1 : (itR a).length ≤ 1 := by unfold itR; split <;> simp
    simp only [itsR, List.flatMap_cons, List.length_append, List.length_cons] at ih ⊢
    omega
theorem cK_wf {q : Qy} {n : Nat} {zr : List Int} (h : CmOK q n) (k : Nat) (hk : k ≤ q.its.length) : WfA (cK q.nd zr q.its (cW q.nd zr q.wh).1 k).1 n := by
  obtain ⟨c, wh, e, hwf, hlen, _⟩ := cW_law (zr := zr) h
  have k1 := cK_law (zr := zr) h c hwf k hk
  rw [e]
  exact k1.wf
theorem cK_len1 {q : Qy} {n : Nat} {zr : List Int} (h : CmOK q n) (hn : q.nd.length ≤ 65536) (k : Nat) (hk : k ≤ q.its.length) : (cK q.nd zr q.its (cW q.nd zr q.wh).1 k).1.length ≤ 65536 := by
  obtain ⟨c, wh, e, hwf, hlen, _⟩ := cW_law (zr := zr) h
  have k1 := cK_law (zr := zr) h c hwf k hk
  have hs := roots_sum h
  have h1 := its_take_sum (q := q) k (tsAt q.nd)
  have := k1.len
  rw [e]
  simp only at this ⊢
  omega
theorem take_succ_I (l : List Int) (k : Nat) (h : k < l.length) : l.take (k + 1) = l.take k ++ [l.getD k 0] := take_snoc_I l k h
end Go.Proofs.YbyabwGreat
