/- Opening an argument of type impl.Table. -/
import Derived.Test.YbyabwOpenCol
import Derived.Test.YbyabwTabW
namespace Go.Proofs.Ybyabw.OpenTab
open Go.ChangeShapes Go.WideShapes Go.ChangeAt Go.RowKit
set_option linter.unusedVariables false
set_option maxRecDepth 100000

theorem bytes_col : Yabn.prog.bytesOf 29 = 104 := by kernel_rfl
theorem cells_tab : Yabn.prog.cellsOf 34 = 2 := by kernel_rfl
theorem cells_scol : Yabn.prog.cellsOf 31 = 1 := by kernel_rfl

theorem weightsAll_mem {H : Type} {P : Program} {e : TypeId} : ∀ {ds : List (DataW H)} {d : DataW H}, d ∈ ds → ∀ n ∈ d.weights P e, n ∈ DataW.weightsAll P e ds
  | d0 :: ds, d, hd, n, hn => by
    simp only [DataW.weightsAll, List.mem_append]
    rcases List.mem_cons.1 hd with rfl | hd
    · exact .inl hn
    · exact .inr (weightsAll_mem hd n hn)

section
variable {H : Type} {enc : TypeId × Value → H} {W : World} {spare : Nat → Bool} {held : Bool}
theorem open_cols {fuel : Nat} {vs : List Value} {x : DataW H × List MemPlace} (h : DataW.trod enc Yabn.prog W 0 spare held fuel 31 vs = some x) (hw : ∀ n ∈ x.1.weights Yabn.prog 31, n ≤ reachBytes) :
    ∃ (cs : List Col) (a : Option Addr) (cap : Nat), vs = [.slice a cs.length cap] ∧ ColsAtW W a cs ∧ cs.length * 104 ≤ reachBytes := by
  rcases Go.Deep.open_slice Yabn.underlying31 h with ⟨rfl, _⟩ | ⟨b, len, cap, m, n, D, Pl, rfl, hb, hl, hm, hmm, rfl, hx⟩
  · exact ⟨[], none, 0, rfl, fun i hi => by simp at hi, by simp⟩
  · have hlm : len ≤ m := by rw [hmm]; split <;> omega
    have each : ∀ i, i < len → ∃ q : Int × List Int × List Int × List Int × List (Int × Int), ∃ a1 a2 a3 a4 c1 c2 c3 c4, (∀ j u, (cellsC ⟨q.1, q.2.1, q.2.2.1, q.2.2.2.1, q.2.2.2.2⟩ a1 a2 a3 a4 c1 c2 c3 c4)[j]? = some u → W.cell? (b.add (i * 5 + j)) = some u) ∧
        ColAt W ⟨q.1, q.2.1, q.2.2.1, q.2.2.2.1, q.2.2.2.2⟩ a1 a2 a3 a4 ∧ LenW ⟨q.1, q.2.1, q.2.2.1, q.2.2.2.1, q.2.2.2.2⟩ := by
      intro i hi
      obtain ⟨cs', h1, h2⟩ := hx i (by omega)
      rw [OpenCol.cells_col] at h1
      obtain ⟨_, hlen, hcell⟩ := World.cells?_some h1
      have hwi : ∀ n ∈ (D i).weights Yabn.prog 29, n ≤ reachBytes := fun n hn => hw n (by
        simp only [DataW.weights, Yabn.underlying31, List.mem_cons, List.mem_append]
        exact .inr (.inl (weightsAll_mem (List.mem_map.2 ⟨i, List.mem_range.2 hi, rfl⟩) n hn)))
      obtain ⟨ck, cp, cd, cc, cr, a1, a2, a3, a4, c1, c2, c3, c4, rfl, hcol, b1, b2, b3, b4⟩ := OpenCol.open_col h2 hwi
      unfold reachBytes at b1 b2 b3 b4
      refine ⟨(ck, cp, cd, cc, cr), a1, a2, a3, a4, c1, c2, c3, c4, fun j u hu => ?_, hcol, ⟨by simp only; omega, by simp only; omega, by simp only; omega, by simp only; omega⟩⟩
      have hj : j < 5 := by rw [← hlen]; exact (List.getElem?_eq_some_iff.1 hu).1
      rw [← Go.Deep.add_add, hcell j hj]
      exact hu
    obtain ⟨q, hq⟩ := Go.Deep.choose_lt each
    refine ⟨(List.range len).map fun i => ⟨(q i).1, (q i).2.1, (q i).2.2.1, (q i).2.2.2.1, (q i).2.2.2.2⟩, some b, cap, by simp, fun i hi => ?_, ?_⟩
    · have hil : i < len := by simpa using hi
      obtain ⟨b, off, sp⟩ := b
      obtain ⟨a1, a2, a3, a4, c1, c2, c3, c4, hc, hcol, hlen⟩ := hq i hil
      have h0 : sp = none := by
        obtain ⟨_, _, _, _, _, _, _, _, hc0, _, _⟩ := hq 0 (by omega)
        exact OpenCol.spot_none (hc0 0 _ rfl)
      subst h0
      have e : ((List.range len).map fun i => (⟨(q i).1, (q i).2.1, (q i).2.2.1, (q i).2.2.2.1, (q i).2.2.2.2⟩ : Col)).getD i col0 = ⟨(q i).1, (q i).2.1, (q i).2.2.1, (q i).2.2.2.1, (q i).2.2.2.2⟩ := by
        simp [List.getD_eq_getElem?_getD, hil]
      rw [e]
      have hcc : ∀ j u, (cellsC ⟨(q i).1, (q i).2.1, (q i).2.2.1, (q i).2.2.2.1, (q i).2.2.2.2⟩ a1 a2 a3 a4 c1 c2 c3 c4)[j]? = some u → W.cell? ⟨b, off + i * 5 + j, none⟩ = some u := fun j u hu => by
        have := hc j u hu
        rw [OpenCol.add_none] at this
        rw [Nat.add_assoc]
        exact this
      exact ⟨b, off, a1, a2, a3, a4, c1, c2, c3, c4, rfl, ⟨hcc 0 _ rfl, hcc 1 _ rfl, hcc 2 _ rfl, hcc 3 _ rfl, hcc 4 _ rfl⟩, hcol, hlen⟩
    · have := hw (((List.range len).map D).length + ((List.range (m - len)).map fun j => D (len + j)).length |> (· * Yabn.prog.bytesOf 29)) (by simp [DataW.weights, Yabn.underlying31])
      simp only [List.length_map, List.length_range, bytes_col] at this ⊢
      refine Nat.le_trans (Nat.mul_le_mul_right _ ?_) this
      omega

theorem open_tab {fuel : Nat} {vs : List Value} {x : DataW H × List MemPlace} (h : DataW.trod enc Yabn.prog W 0 spare held fuel 34 vs = some x) (hw : ∀ n ∈ x.1.weights Yabn.prog 34, n ≤ reachBytes) :
    ∃ (n : Int) (cs : List Col) (a : Option Addr) (cap : Nat), vs = [.int .i64 n, .slice a cs.length cap] ∧ ColsAtW W a cs ∧ cs.length * 104 ≤ reachBytes := by
  obtain ⟨xs, k, hk, rfl, hlen, hxl, hf⟩ := DataW.trod_struct Yabn.underlying34 h
  rw [cells_tab] at hlen
  have hx2 : xs.length = 2 := by rw [hxl]; rfl
  have gg := fun (j : Nat) (hj : j < xs.length) => List.getElem?_eq_getElem hj
  have g0 := (hf 0 _ rfl).trans (gg 0 (by omega))
  have g1 := (hf 1 _ rfl).trans (gg 1 (by omega))
  have hws : ∀ n ∈ (xs[1]).1.weights Yabn.prog 31, n ≤ reachBytes := by
    intro n hn
    refine hw n ?_
    have he : DataW.weights Yabn.prog 34 (.agg (xs.map (·.1))) = DataW.weightsEach Yabn.prog [3, 31] (xs.map (·.1)) := by
      simp only [DataW.weights, Yabn.underlying34]
      rfl
    rw [he]
    exact DataW.weights_mem_each (j := 1) rfl (by simp [List.getElem?_eq_getElem (show 1 < xs.length by omega)]) n hn
  obtain ⟨n0, e0⟩ := OpenCol.cells_int Yabn.underlying3 OpenCol.cells_int1 g0
  obtain ⟨cs, a, cap, e1, i1, b1⟩ := open_cols g1 hws
  refine ⟨n0, cs, a, cap, ?_, i1, b1⟩
  clear hf g0 g1 hws
  match vs, hlen with
  | [v0, v1], _ =>
    have f0 : some v0 = some (.int .i64 n0) := e0
    have f1 : [v1] = [.slice a cs.length cap] := by rw [← e1]; exact (congrArg (fun n => List.take n [v1]) cells_scol).symm
    simp only [Option.some.injEq, List.cons.injEq, and_true] at f0 f1
    rw [f0, f1]
end
end Go.Proofs.Ybyabw.OpenTab
