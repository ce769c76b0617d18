/- Opening an argument of type impl.Column. -/
import Derived.Test.YbyabwRows
import Derived.WalkKit
import Derived.ProofKit
import Derived.OpenShut
import Derived.ShutString
import Derived.ChangeOld
import Derived.Below
import Derived.Deep.Slices
import Derived.SizedLaws
import Derived.Test.YbyabwColL
namespace Go.Proofs.Ybyabw.OpenCol
open Go.ChangeShapes Go.WideShapes Go.ChangeAt Go.RowKit
set_option linter.unusedVariables false
set_option maxRecDepth 100000

theorem spot_none {w : World} {b off : Nat} {sp : Option Nat} {v : Value} (h : w.cell? ((⟨b, off, sp⟩ : Addr).add 0) = some v) : sp = none := by
  cases sp with
  | none => rfl
  | some s =>
    simp only [Addr.add, if_true, World.cell?] at h
    split at h <;> simp at h
theorem add_none (b off i : Nat) : (⟨b, off, none⟩ : Addr).add i = ⟨b, off + i, none⟩ := by unfold Addr.add; split <;> simp_all

theorem bytes_i64 : Yabn.prog.bytesOf 2 = 8 := by kernel_rfl
theorem bytes_int : Yabn.prog.bytesOf 3 = 8 := by kernel_rfl
theorem bytes_run : Yabn.prog.bytesOf 27 = 16 := by kernel_rfl
theorem cells_i64 : Yabn.prog.cellsOf 2 = 1 := by kernel_rfl
theorem cells_int1 : Yabn.prog.cellsOf 3 = 1 := by kernel_rfl
theorem cells_run : Yabn.prog.cellsOf 27 = 2 := by kernel_rfl
theorem cells_si64 : Yabn.prog.cellsOf 23 = 1 := by kernel_rfl
theorem cells_sint : Yabn.prog.cellsOf 24 = 1 := by kernel_rfl
theorem cells_srun : Yabn.prog.cellsOf 25 = 1 := by kernel_rfl
theorem cells_col : Yabn.prog.cellsOf 29 = 5 := by kernel_rfl

section
variable {H : Type} {enc : TypeId × Value → H} {W : World} {spare : Nat → Bool} {held : Bool}
theorem cells_int {t : TypeId} {k : IntKind} (hu : Yabn.prog.underlying t = some (.int k)) (hc : Yabn.prog.cellsOf t = 1) {n : Nat} {cs : List Value} {x : DataW H × List MemPlace} {o : Nat}
    (h : DataW.trod enc Yabn.prog W 0 spare held n t ((cs.drop o).take (Yabn.prog.cellsOf t)) = some x) : ∃ y, cs[o]? = some (.int k y) := by
  obtain ⟨y, e, _⟩ := DataW.trod_int hu h
  rw [hc] at e
  refine ⟨y, ?_⟩
  have h0 : ((cs.drop o).take 1)[0]? = some (.int k y) := by rw [e]; rfl
  simpa using h0

/-- A slice of integers, and what it weighs. -/
theorem open_islice {t e : TypeId} (ht : Yabn.prog.underlying t = some (.slice e)) (he : Yabn.prog.underlying e = some (.int .i64)) (hc : Yabn.prog.cellsOf e = 1) {fuel : Nat} {cs : List Value} {x : DataW H × List MemPlace}
    (h : DataW.trod enc Yabn.prog W 0 spare held fuel t cs = some x) (hw : ∀ n ∈ x.1.weights Yabn.prog t, n ≤ reachBytes) : ∃ (zs : List Int) (a : Option Addr) (cap : Nat), cs = [.slice a zs.length cap] ∧ IntsAt W a zs ∧ zs.length * Yabn.prog.bytesOf e ≤ reachBytes := by
  rcases open_ints ht he hc h with ⟨rfl, _⟩ | ⟨x', len, cap, zs, rfl, hb, hl, hm, hz, rfl, hcell, _⟩
  · exact ⟨[], none, 0, rfl, IntsAt.nil _ _, by simp⟩
  · have hle : len ≤ zs.length := by rw [hz]; split <;> omega
    have hlt : (zs.take len).length = len := by simp; omega
    refine ⟨zs.take len, some x', cap, by rw [hlt], fun i hi => ?_, ?_⟩
    · rw [hlt] at hi
      have h0 := hcell 0 (by omega)
      have hi' := hcell i (by omega)
      obtain ⟨b, off, sp⟩ := x'
      obtain rfl := spot_none h0
      refine ⟨b, off, rfl, ?_⟩
      rw [add_none] at hi'
      rw [hi']
      simp [hi]
    · have := hw (((lits (H := H) .i64 (zs.take len)).length + (lits (H := H) .i64 (zs.drop len)).length) * Yabn.prog.bytesOf e) (by simp [DataW.weights, ht])
      simp only [lits, List.length_map, List.length_take, List.length_drop] at this
      rw [hlt]
      refine Nat.le_trans (Nat.mul_le_mul_right _ ?_) this
      omega

theorem open_runs {fuel : Nat} {cs : List Value} {x : DataW H × List MemPlace} (h : DataW.trod enc Yabn.prog W 0 spare held fuel 25 cs = some x) (hw : ∀ n ∈ x.1.weights Yabn.prog 25, n ≤ reachBytes) :
    ∃ (rs : List (Int × Int)) (a : Option Addr) (cap : Nat), cs = [.slice a rs.length cap] ∧ PairsAt W a rs ∧ rs.length * 16 ≤ reachBytes := by
  rcases Go.Deep.open_slice Yabn.underlying25 h with ⟨rfl, _⟩ | ⟨b, len, cap, m, n, D, Pl, rfl, hb, hl, hm, hmm, rfl, hx⟩
  · exact ⟨[], none, 0, rfl, PairsAt.nil _ _, by simp⟩
  · have hlm : len ≤ m := by rw [hmm]; split <;> omega
    have each : ∀ i, i < len → ∃ q : Int × Int, W.cell? (b.add (i * 2)) = some (.int .i64 q.1) ∧ W.cell? (b.add (i * 2 + 1)) = some (.int .i64 q.2) := by
      intro i hi
      obtain ⟨cs', h1, h2⟩ := hx i (by omega)
      rw [cells_run] at h1
      obtain ⟨_, hlen, hcell⟩ := World.cells?_some h1
      obtain ⟨xs, k, hk, hxy, _, hxl, hf⟩ := DataW.trod_struct Yabn.underlying27 h2
      have gg := fun (j : Nat) (hj : j < xs.length) => List.getElem?_eq_getElem hj
      have hx2 : xs.length = 2 := by rw [hxl]; rfl
      have g0 := (hf 0 _ rfl).trans (gg 0 (by omega))
      have g1 := (hf 1 _ rfl).trans (gg 1 (by omega))
      obtain ⟨y0, e0⟩ := cells_int Yabn.underlying2 cells_i64 g0
      obtain ⟨y1, e1⟩ := cells_int Yabn.underlying3 cells_int1 g1
      have c0 := hcell 0 (by omega)
      have c1 := hcell 1 (by omega)
      rw [Go.Deep.add_add] at c0 c1
      exact ⟨(y0, y1), (c0.trans e0), (c1.trans e1)⟩
    obtain ⟨q, hq⟩ := Go.Deep.choose_lt each
    refine ⟨(List.range len).map q, some b, cap, by simp, fun i hi => ?_, ?_⟩
    · have hil : i < len := by simpa using hi
      obtain ⟨b, off, sp⟩ := b
      have h0 := (hq 0 (by omega)).1
      rw [Nat.zero_mul] at h0
      obtain rfl := spot_none h0
      obtain ⟨e1, e2⟩ := hq i hil
      rw [add_none] at e1 e2
      refine ⟨b, off, rfl, ?_, ?_⟩
      · simpa [List.getD_eq_getElem?_getD, hil] using e1
      · rw [Nat.add_assoc]
        simpa [List.getD_eq_getElem?_getD, hil] using e2
    · have := hw (((List.range len).map D).length + ((List.range (m - len)).map fun j => D (len + j)).length |> (· * Yabn.prog.bytesOf 27)) (by simp [DataW.weights, Yabn.underlying25])
      simp only [List.length_map, List.length_range, bytes_run] at this ⊢
      refine Nat.le_trans (Nat.mul_le_mul_right _ ?_) this
      omega

theorem open_col {fuel : Nat} {cs : List Value} {x : DataW H × List MemPlace} (h : DataW.trod enc Yabn.prog W 0 spare held fuel 29 cs = some x) (hw : ∀ n ∈ x.1.weights Yabn.prog 29, n ≤ reachBytes) :
    ∃ (ck : Int) (cp cd cc : List Int) (cr : List (Int × Int)) (a1 a2 a3 a4 : Option Addr) (c1 c2 c3 c4 : Nat), cs = cellsC ⟨ck, cp, cd, cc, cr⟩ a1 a2 a3 a4 c1 c2 c3 c4 ∧ ColAt W ⟨ck, cp, cd, cc, cr⟩ a1 a2 a3 a4 ∧
      cp.length * 8 ≤ reachBytes ∧ cd.length * 8 ≤ reachBytes ∧ cc.length * 8 ≤ reachBytes ∧ cr.length * 16 ≤ reachBytes := by
  obtain ⟨xs, k, hk, rfl, hlen, hxl, hf⟩ := DataW.trod_struct Yabn.underlying29 h
  rw [cells_col] at hlen
  have hx5 : xs.length = 5 := by rw [hxl]; rfl
  have gg := fun (j : Nat) (hj : j < xs.length) => List.getElem?_eq_getElem hj
  have g0 := (hf 0 _ rfl).trans (gg 0 (by omega))
  have g1 := (hf 1 _ rfl).trans (gg 1 (by omega))
  have g2 := (hf 2 _ rfl).trans (gg 2 (by omega))
  have g3 := (hf 3 _ rfl).trans (gg 3 (by omega))
  have g4 := (hf 4 _ rfl).trans (gg 4 (by omega))
  have hws : ∀ (j : Nat) (t : TypeId) (hj : j < xs.length), (([3, 23, 23, 24, 25] : List TypeId))[j]? = some t → ∀ n ∈ (xs[j]).1.weights Yabn.prog t, n ≤ reachBytes := by
    intro j t hj ht n hn
    refine hw n ?_
    have he : DataW.weights Yabn.prog 29 (.agg (xs.map (·.1))) = DataW.weightsEach Yabn.prog [3, 23, 23, 24, 25] (xs.map (·.1)) := by
      simp only [DataW.weights, Yabn.underlying29]
      rfl
    rw [he]
    exact DataW.weights_mem_each (j := j) ht (by simp [List.getElem?_eq_getElem hj]) n hn
  obtain ⟨ck, e0⟩ := cells_int Yabn.underlying3 cells_int1 g0
  obtain ⟨cp, a1, c1, e1, i1, b1⟩ := open_islice Yabn.underlying23 Yabn.underlying2 cells_i64 g1 (hws 1 _ (by omega) rfl)
  obtain ⟨cd, a2, c2, e2, i2, b2⟩ := open_islice Yabn.underlying23 Yabn.underlying2 cells_i64 g2 (hws 2 _ (by omega) rfl)
  obtain ⟨cc, a3, c3, e3, i3, b3⟩ := open_islice Yabn.underlying24 Yabn.underlying3 cells_int1 g3 (hws 3 _ (by omega) rfl)
  obtain ⟨cr, a4, c4, e4, i4, b4⟩ := open_runs g4 (hws 4 _ (by omega) rfl)
  rw [bytes_i64] at b1 b2
  rw [bytes_int] at b3
  refine ⟨ck, cp, cd, cc, cr, a1, a2, a3, a4, c1, c2, c3, c4, ?_, ⟨i1, i2, i3, i4⟩, b1, b2, b3, b4⟩
  clear hf g0 g1 g2 g3 g4 hws
  match cs, hlen with
  | [v0, v1, v2, v3, v4], _ =>
    have f0 : some v0 = some (.int .i64 ck) := e0
    have f1 : [v1] = [.slice a1 cp.length c1] := by rw [← e1]; exact (congrArg (fun n => List.take n [v1, v2, v3, v4]) cells_si64).symm
    have f2 : [v2] = [.slice a2 cd.length c2] := by rw [← e2]; exact (congrArg (fun n => List.take n [v2, v3, v4]) cells_si64).symm
    have f3 : [v3] = [.slice a3 cc.length c3] := by rw [← e3]; exact (congrArg (fun n => List.take n [v3, v4]) cells_sint).symm
    have f4 : [v4] = [.slice a4 cr.length c4] := by rw [← e4]; exact (congrArg (fun n => List.take n [v4]) cells_srun).symm
    simp only [Option.some.injEq, List.cons.injEq, and_true] at f0 f1 f2 f3 f4
    rw [f0, f1, f2, f3, f4]
    rfl
end
end Go.Proofs.Ybyabw.OpenCol
