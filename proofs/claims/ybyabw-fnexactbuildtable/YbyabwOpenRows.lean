/- Opening an argument of type [][]int64. -/
import Derived.Test.YbyabwOpenTab
import Derived.Test.YbyabwRowL
namespace Go.Proofs.Ybyabw.OpenRows
open Go.ChangeShapes Go.WideShapes Go.ChangeAt Go.RowKit
set_option linter.unusedVariables false
set_option maxRecDepth 100000

theorem bytes_row : Yabn.prog.bytesOf 23 = 24 := by kernel_rfl
theorem bytes_i64 : Yabn.prog.bytesOf 2 = 8 := by kernel_rfl
theorem cells_row : Yabn.prog.cellsOf 23 = 1 := by kernel_rfl
theorem cells_i64 : Yabn.prog.cellsOf 2 = 1 := by kernel_rfl

section
variable {H : Type} {enc : TypeId × Value → H} {W : World} {spare : Nat → Bool} {held : Bool}
theorem open_rows {fuel : Nat} {vs : List Value} {x : DataW H × List MemPlace} (h : DataW.trod enc Yabn.prog W 0 spare held fuel 72 vs = some x) (hw : ∀ n ∈ x.1.weights Yabn.prog 72, n ≤ reachBytes) :
    ∃ (n : Nat) (f : Nat → List Int) (a : Option Addr) (cap : Nat), vs = [.slice a n cap] ∧ IRows W a n f ∧ n * 24 ≤ reachBytes ∧ ∀ i, i < n → (f i).length * 8 ≤ reachBytes := by
  rcases Go.Deep.open_slice Yabn.underlying72 h with ⟨rfl, _⟩ | ⟨b, len, cap, m, n, D, Pl, rfl, hb, hl, hm, hmm, rfl, hx⟩
  · exact ⟨0, fun _ => [], none, 0, rfl, fun i hi => by omega, by simp, fun i hi => by omega⟩
  · have hlm : len ≤ m := by rw [hmm]; split <;> omega
    have each : ∀ i, i < len → ∃ q : List Int, ∃ a1 c1, W.cell? (b.add i) = some (.slice a1 q.length c1) ∧ IntsAt W a1 q ∧ q.length * 8 ≤ reachBytes := by
      intro i hi
      obtain ⟨cs', h1, h2⟩ := hx i (by omega)
      rw [cells_row] at h1
      obtain ⟨_, hlen, hcell⟩ := World.cells?_some h1
      have hwi : ∀ n ∈ (D i).weights Yabn.prog 23, n ≤ reachBytes := fun n hn => hw n (by
        simp only [DataW.weights, Yabn.underlying72, List.mem_cons, List.mem_append]
        exact .inr (.inl (OpenTab.weightsAll_mem (List.mem_map.2 ⟨i, List.mem_range.2 hi, rfl⟩) n hn)))
      obtain ⟨zs, a1, c1, rfl, hz, hbz⟩ := OpenCol.open_islice Yabn.underlying23 Yabn.underlying2 cells_i64 h2 hwi
      rw [bytes_i64] at hbz
      refine ⟨zs, a1, c1, ?_, hz, hbz⟩
      have := hcell 0 (by omega)
      rw [Go.Deep.add_add] at this
      simpa using this
    obtain ⟨q, hq⟩ := Go.Deep.choose_lt each
    refine ⟨len, q, some b, cap, rfl, fun i hi => ?_, ?_, fun i hi => ?_⟩
    · obtain ⟨b, off, sp⟩ := b
      obtain ⟨a1, c1, hc, hi1, _⟩ := hq i hi
      have h0 : sp = none := by
        obtain ⟨_, _, hc0, _⟩ := hq 0 (by omega)
        exact OpenCol.spot_none hc0
      subst h0
      rw [OpenCol.add_none] at hc
      exact ⟨b, off, a1, c1, rfl, hc, hi1⟩
    · have := hw (((List.range len).map D).length + ((List.range (m - len)).map fun j => D (len + j)).length |> (· * Yabn.prog.bytesOf 23)) (by simp [DataW.weights, Yabn.underlying72])
      simp only [List.length_map, List.length_range, bytes_row] at this ⊢
      refine Nat.le_trans (Nat.mul_le_mul_right _ ?_) this
      omega
    · obtain ⟨a1, c1, hc, hi1, hz⟩ := hq i hi
      exact hz
end
end Go.Proofs.Ybyabw.OpenRows
