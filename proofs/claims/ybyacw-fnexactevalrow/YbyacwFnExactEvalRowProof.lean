import Derived.Test.YbyacwRows
import Derived.WalkKit
import Derived.ProofKit
import Derived.OpenShut
import Derived.ShutString
import Derived.ChangeOld
import Derived.Below
import Derived.Deep.Slices
import Derived.Test.YbyacwFnExactEvalRowW
namespace Go.Proofs.Ybyacw.fnExactEvalRow
open Go.ChangeShapes Go.WideShapes Go.ChangeAt Go.RowKit
open Go.ChangeMaps (open_string shut_string)
set_option linter.unusedVariables false

theorem own : ownKnob Yacn.prog.godebug = none := by kernel_rfl
theorem laidOut : laidOutB Yacn.prog = true := by kernel_rfl

theorem spot_none {w : World} {b off : Nat} {sp : Option Nat} {v : Value} (h : w.cell? ((⟨b, off, sp⟩ : Addr).add 0) = some v) : sp = none := by
  cases sp with
  | none => rfl
  | some s =>
    simp only [Addr.add, if_true, World.cell?] at h
    split at h <;> simp at h
theorem add_none (b off i : Nat) : (⟨b, off, none⟩ : Addr).add i = ⟨b, off + i, none⟩ := by unfold Addr.add; split <;> simp_all
def IsRow (k : IntKind) (w : World) (a : Option Addr) (len cap : Nat) (zs : List Int) : Prop :=
  (a = none ∧ len = 0 ∧ cap = 0 ∧ zs = []) ∨
  ∃ x, a = some x ∧ len ≤ cap ∧ cap ≤ maxLen ∧ zs.length = cap ∧ (∀ i, i < zs.length → w.cell? (x.add i) = some (.int k (zs.getD i 0))) ∧ ∀ n ∈ zs, (Lit.int k n).wf = true

theorem isRow_ints {w : World} {a : Option Addr} {len cap : Nat} {zs : List Int} (h : IsRow .i64 w a len cap zs) : (zs.take len).length = len ∧ IntsAt w a (zs.take len) := by
  rcases h with ⟨rfl, rfl, rfl, rfl⟩ | ⟨x, rfl, hl, hm, hz, hc, _⟩
  · exact ⟨rfl, IntsAt.nil _ _⟩
  · refine ⟨by simp; omega, fun i hi => ?_⟩
    have hil : i < len := by simp at hi; omega
    have h0 := hc 0 (by omega)
    have hi' := hc i (by omega)
    obtain ⟨b, off, sp⟩ := x
    obtain rfl := spot_none h0
    refine ⟨b, off, rfl, ?_⟩
    rw [add_none] at hi'
    rw [hi']
    simp [hil]


section
variable {H : Type} {enc : TypeId × Value → H} {W : World} {spare : Nat → Bool} {held : Bool}
theorem cells_int {t : TypeId} {k : IntKind} (hu : Yacn.prog.underlying t = some (.int k)) (hc : Yacn.prog.cellsOf t = 1) {n : Nat} {cs : List Value} {x : DataW H × List MemPlace} {o : Nat}
    (h : DataW.trod enc Yacn.prog W 0 spare held n t ((cs.drop o).take (Yacn.prog.cellsOf t)) = some x) : ∃ y, cs[o]? = some (.int k y) := by
  obtain ⟨y, e, _⟩ := DataW.trod_int hu h
  rw [hc] at e
  refine ⟨y, ?_⟩
  have h0 : ((cs.drop o).take 1)[0]? = some (.int k y) := by rw [e]; rfl
  simpa using h0

theorem open_nodes {fuel : Nat} {a : Option Addr} {len cap : Nat} {x : DataW H × List MemPlace} (h : DataW.trod enc Yacn.prog W 0 spare held fuel 22 [.slice a len cap] = some x) : ∃ ns : List Nd, ns.length = len ∧ NodesAt W a ns := by
  rcases Go.Deep.open_slice Yacn.underlying22 h with ⟨hcs, _⟩ | ⟨b, l, c, m, n, D, Pl, hcs, hb, hl, hm, hmm, _, hx⟩
  · simp at hcs
    obtain ⟨rfl, rfl, rfl⟩ := hcs
    exact ⟨[], rfl, RowsAt.nil _ _ _⟩
  · simp at hcs
    obtain ⟨rfl, rfl, rfl⟩ := hcs
    have hlm : len ≤ m := by rw [hmm]; split <;> omega
    have ce : Yacn.prog.cellsOf 118 = 4 := by kernel_rfl
    have each : ∀ i, i < len → ∃ q : Int × Int × Int × Int, ∀ j u, ([Value.int .i64 q.1, .int .i64 q.2.1, .int .i64 q.2.2.1, .int .i64 q.2.2.2] : List Value)[j]? = some u → W.cell? (b.add (i * 4 + j)) = some u := by
      intro i hi
      obtain ⟨cs', h1, h2⟩ := hx i (by omega)
      rw [ce] at h1
      obtain ⟨_, hlen, hcell⟩ := World.cells?_some h1
      obtain ⟨xs, k, hk, hxy, _, hxl, hf⟩ := DataW.trod_struct Yacn.underlying118 h2
      have gg := fun (j : Nat) (hj : j < xs.length) => List.getElem?_eq_getElem hj
      have hx4 : xs.length = 4 := by rw [hxl]; rfl
      have g0 := (hf 0 _ rfl).trans (gg 0 (by omega))
      have g1 := (hf 1 _ rfl).trans (gg 1 (by omega))
      have g2 := (hf 2 _ rfl).trans (gg 2 (by omega))
      have g3 := (hf 3 _ rfl).trans (gg 3 (by omega))
      obtain ⟨y0, e0⟩ := cells_int Yacn.underlying3 (by kernel_rfl) g0
      obtain ⟨y1, e1⟩ := cells_int Yacn.underlying2 (by kernel_rfl) g1
      obtain ⟨y2, e2⟩ := cells_int Yacn.underlying3 (by kernel_rfl) g2
      obtain ⟨y3, e3⟩ := cells_int Yacn.underlying3 (by kernel_rfl) g3
      refine ⟨(y0, y1, y2, y3), fun j u hu => ?_⟩
      have hj : j < 4 := (List.getElem?_eq_some_iff.1 hu).1
      rw [← Go.Deep.add_add, hcell j hj]
      match j, hj with
      | 0, _ => exact Eq.trans (a := cs'[0]?) e0 hu
      | 1, _ => exact Eq.trans (a := cs'[1]?) e1 hu
      | 2, _ => exact Eq.trans (a := cs'[2]?) e2 hu
      | 3, _ => exact Eq.trans (a := cs'[3]?) e3 hu
    obtain ⟨q, hq⟩ := Go.Deep.choose_lt each
    refine ⟨(List.range len).map fun i => ⟨(q i).1, (q i).2.1, (q i).2.2.1, (q i).2.2.2⟩, by simp, fun i hi => ?_⟩
    rw [nodeRows_len] at hi
    have hil : i < len := by simpa using hi
    obtain ⟨b, off, sp⟩ := b
    obtain rfl : sp = none := spot_none (hq 0 (by omega) 0 _ rfl)
    refine ⟨b, off, rfl, fun j u hu => ?_⟩
    rw [nodeRows_at _ _ hi] at hu
    have := hq i hil j u (by simpa [Nd.cells, List.getD_eq_getElem?_getD, hil] using hu)
    rw [add_none] at this
    rw [Nat.add_assoc]
    exact this
end

set_option maxRecDepth 100000 in
theorem lifted (os : Os) (started : os.Started) (H : Type) (enc : TypeId × Value → H) :
    ReturnsInHanded {} Yacn.checked os 3 .any (Rows.fnExactEvalRowSpec.pre6 enc Yacn.prog Yacn.f3 Rows.fnExactEvalRowRow.domain false) (Rows.fnExactEvalRowSpec.post enc Yacn.prog Yacn.f3 false true false false) := by
  refine returnsInHanded_of_change (C := Yacn.checked) own started (by kernel_rfl) Yacn.func3
    (ChangeSpec.witness6 (enc := enc) (C := Yacn.checked) false ⟨#[], #[.slice none 0 0, .int .i64 0, .slice none 0 0], []⟩ 8 (by kernel_rfl) (by kernel_rfl) (by kernel_rfl) (by kernel_rfl)) ?_
  intro W base args ds gs before hval0 hW hcnd _
  have hval : ∀ (j : Nat) t v, Yacn.f3.params[j]? = some t → args[j]? = some v → Value.okWide Yacn.prog W .any base t v := hval0
  have hW' := hW
  obtain ⟨p, q, hA0, hV, rfl, hfz, hnd⟩ := hW
  have hA : DataW.TrodAll enc Yacn.prog W 0 (fun _ => true) true Yacn.f3.params.toList args.toList ds p := hA0
  rw [Yacn.params3] at hA hval
  obtain ⟨v0, vs0, d0, ds0, p0, q0, hargs, rfl, rfl, h0, r0⟩ := trodAll_cons hA
  obtain ⟨v1, vs1, d1, ds1, p1, q1, rfl, rfl, rfl, h1, r1⟩ := trodAll_cons r0
  obtain ⟨v2, vs2, d2, ds2, p2, q2, rfl, rfl, rfl, h2, r2⟩ := trodAll_cons r1
  obtain ⟨rfl, rfl, rfl⟩ := trodAll_nil r2
  obtain rfl : args = #[v0, v1, v2] := by cases args; simp_all
  obtain ⟨rfl, rfl⟩ := trodVars_none hV
  obtain ⟨a0, len0, cap0, rfl⟩ := okWide_slice Yacn.underlying22 (hval 0 22 v0 rfl rfl)
  have k0 := h0
  have lt0 : ∀ x ∈ p0, x.block < W.heap.size := by obtain ⟨m, hm⟩ := k0; exact DataW.trod_lt m _ _ _ hm
  obtain ⟨ns, e0, i0⟩ : ∃ ns : List Nd, ns.length = len0 ∧ NodesAt W a0 ns := by
    obtain ⟨fuel, hf⟩ := h0
    exact open_nodes hf
  obtain ⟨a1, rfl, rfl, rfl, w1⟩ := open_int Yacn.underlying3 (hval 1 3 v1 rfl rfl) h1
  obtain ⟨a2, len2, cap2, rfl⟩ := okWide_slice Yacn.underlying23 (hval 2 23 v2 rfl rfl)
  have k2 := h2
  have lt2 : ∀ x ∈ p2, x.block < W.heap.size := by obtain ⟨m, hm⟩ := k2; exact DataW.trod_lt m _ _ _ hm
  obtain ⟨z2, w2⟩ : ∃ zs, IsRow .i64 W a2 len2 cap2 zs := by
    obtain ⟨fuel, hf⟩ := h2
    rcases open_ints Yacn.underlying23 Yacn.underlying2 (by kernel_rfl) hf with ⟨hcs, _⟩ | ⟨x, l, c, zs, hcs, _, hl, hm, hz, _, hcell, hwz⟩
    · simp [Value.cells] at hcs
      obtain ⟨rfl, rfl, rfl⟩ := hcs
      exact ⟨[], .inl ⟨rfl, rfl, rfl, rfl⟩⟩
    · simp [Value.cells] at hcs
      obtain ⟨rfl, rfl, rfl⟩ := hcs
      exact ⟨zs, .inr ⟨_, rfl, hl, hm, by simpa using hz, hcell, hwz⟩⟩
  obtain ⟨e2, i2⟩ := isRow_ints w2
  clear hA0 hval0
  have walk := fnExactEvalRow_walk ns (z2.take len2) a0 a2 cap0 cap2 a1 W i0 i2
  rw [e0, e2] at walk
  refine walk.mono fun e W' ⟨he, bel⟩ => ?_
  subst he
  exact ⟨_, rfl, _, _, _, [], _, [], hW', trodAll_mk1 (shut_bool Yacn.underlying4 _), (trodAll_cons_mk (Below.trod laidOut (by kernel_rfl) (of_decide_eq_true (by kernel_rfl)) k0 bel lt0) (trodAll_cons_mk (shut_int Yacn.underlying3 w1) (trodAll_cons_mk (Below.trod laidOut (by kernel_rfl) (of_decide_eq_true (by kernel_rfl)) k2 bel lt2) trodAll_mk0))), rfl, bel.frame _, fun h => by cases h⟩

theorem over : Rows.fnExactEvalRowRow.holds Yacn.pinned (OpenSpec.ofChange Rows.fnExactEvalRowSpec) :=
  OpenClaim.holds_of_wide 3 Yacn.f3 rfl rfl rfl rfl rfl rfl rfl ⟨rfl, rfl, rfl, rfl, rfl⟩ rfl rfl rfl rfl rfl (by kernel_rfl) Yacn.func3 (by kernel_rfl)
    (of_decide_eq_true (by kernel_rfl)) (by unfold Func.isWrapper; first | (rw [if_pos (by decide +kernel)]; kernel_rfl) | (rw [if_neg (by decide +kernel)]; exact ⟨rfl, rfl⟩))
    (fun os started H enc _ => lifted os started H enc)

/-- ████ THE STATEMENT ████ -/
theorem proved : Rows.FnExactEvalRowSaid := over
end Go.Proofs.Ybyacw.fnExactEvalRow
