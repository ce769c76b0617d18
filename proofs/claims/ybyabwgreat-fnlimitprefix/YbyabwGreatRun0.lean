/- impl.RunPlan: what it answers, what it holds on its way -/
import Derived.Test.YbyabwGreatAns0
import Derived.Test.YbyabwGreatCmp1
namespace Go.Proofs.YbyabwGreat
open Go.RowKit
set_option maxRecDepth 100000
set_option linter.unusedVariables false
set_option linter.unusedSimpArgs false

theorem size_bool : (Yabn.prog.info? 4).map (·.size) = some 1 := by kernel_rfl
section
variable {P : Program} {ops : Array Oper} {rest : List Oper} {o : Oper} {a : Act} {Q : Exit → Act → World → Prop} {w : World}
theorem wpList_stZ (hg : o.guard = none) {x y : Operand} {t : TypeId} (ho : o.op = .store t x y) {base g i n cap : Nat} {xs : List Bool} {u : Bool} (hx : a.eval x = .pointer (some ⟨g, i, none⟩)) (hy : a.eval y = .bool u)
    (hown : OwnZ w base (.slice (some ⟨g, 0, none⟩) n cap) xs) (hi : i < xs.length) (hsz : (P.info? t).map (·.size) = some 1)
    (hK : ∀ w', OwnZ w' base (.slice (some ⟨g, 0, none⟩) n cap) (xs.set i u) → w.grownBy w' (some g) → wpList P ops Q rest (a.put o.dst undef) w') : wpList P ops Q (o :: rest) a w :=
  wpList_st1 hg ho hx hy rfl (hown.cellAt i hi) (hown.frozenAt i) hsz (hK _ (hown.stored i u) (grown_setCell _ _ _))
end
/-- What RunPlan and Execute answer: the columns and the cells, or no. -/
def RetRes (c : Prop) (ni : Nat) (xs : List Int) (w : World) : Ending → World → Prop := fun en w' => Ext w w' ∧ ((c ∧ ∃ a cap, en = .returned (.tuple #[.agg #[.int .i64 ni, .slice a xs.length cap], .bool true]) ∧ IntsAt w' a xs ∧ Abv w.heap.size a) ∨ (¬ c ∧ en = .returned (.tuple #[.agg rsz.toArray, .bool false])))
theorem cost_it {p : Pl} {k n m : Nat} (hc : costV p k n = true) (h : m ≤ n) : m * p.its.length ≤ 16777216 := by
  unfold costV at hc
  rcases Nat.eq_zero_or_pos n with h0 | h0
  · have : m = 0 := by omega
    rw [this]; omega
  · have h1 : n * (k + p.code.length + p.its.length + p.gr.length) ≤ 16777216 := by
      simp only [Bool.or_eq_true, decide_eq_true_eq] at hc
      omega
    have h2 : m * p.its.length ≤ n * (k + p.code.length + p.its.length + p.gr.length) := Nat.mul_le_mul h (by omega)
    omega
theorem but_two {S : Nat → Prop} {w w1 w2 : World} {a b : Nat} (h1 : But (fun q => q = a) w w1) (h2 : But (fun q => q = b) w1 w2) (ha : S a) (hb : S b) : But S w w2 := (h1.mono (fun q hq => by rw [hq]; exact ha)).trans (h2.mono (fun q hq => by rw [hq]; exact hb))
/-- What the grouping loop holds. -/
structure AggI (w3 wr : World) (k nc R A MN Gb : Nat) (yr yv AL : List Int) (NL : List Bool) (gv : Value) (ids : List Int) (gcs : List Value) : Prop where
  row : OwnI wr w3.heap.size 2 (.slice (some ⟨R, 0, none⟩) k k) yr
  rl : yr.length = k
  val : OwnI wr w3.heap.size 2 (.slice (some ⟨R + 1, 0, none⟩) nc nc) yv
  vl : yv.length = nc
  acc : OwnI wr w3.heap.size 2 (.slice (some ⟨A, 0, none⟩) MN MN) AL
  al : AL.length = MN
  seen : OwnZ wr w3.heap.size (.slice (some ⟨A + 1, 0, none⟩) MN MN) NL
  nl : NL.length = MN
  gid : OwnI wr (R + 2) 3 gv ids
  gb : Blk wr Gb 113 gcs
  ex : Ext w3 wr
section
variable {w3 wr w2 : World} {k nc R A MN Gb : Nat} {yr yv AL yr2 yv2 : List Int} {NL : List Bool} {gv : Value} {ids : List Int} {gcs : List Value}
theorem AggI.alloc (h : AggI w3 wr k nc R A MN Gb yr yv AL NL gv ids gcs) (o : Obj) : AggI w3 (wr.alloc o) k nc R A MN Gb yr yv AL NL gv ids gcs :=
  ⟨OwnI.alloc h.row o, h.rl, OwnI.alloc h.val o, h.vl, OwnI.alloc h.acc o, h.al, OwnZ.alloc h.seen o, h.nl, OwnI.alloc h.gid o, h.gb.alloc o, h.ex.alloc o⟩
theorem AggI.ext (h : AggI w3 wr k nc R A MN Gb yr yv AL NL gv ids gcs) (he : Ext wr w2) : AggI w3 w2 k nc R A MN Gb yr yv AL NL gv ids gcs :=
  ⟨OwnI.ext h.row he, h.rl, OwnI.ext h.val he, h.vl, OwnI.ext h.acc he, h.al, OwnZ.ext h.seen he, h.nl, OwnI.ext h.gid he, h.gb.ext he, h.ex.trans he⟩
theorem AggI.cvd (h : AggI w3 wr k nc R A MN Gb yr yv AL NL gv ids gcs) (hN : R + 2 ≤ Gb ∧ Gb < A) (hR : w3.heap.size ≤ R) {C c1 c2 : Nat} {yc : List Int} (hO : OwnI wr w3.heap.size 2 (.slice (some ⟨C, 0, none⟩) c1 c2) yc) (hC : A + 2 ≤ C) (hb : But (fun q => q = C) wr w2) : AggI w3 w2 k nc R A MN Gb yr yv AL NL gv ids gcs := by
  have hf := FrT.of_one hO hb
  exact ⟨h.row.butS hb (fun q hq hh => by cases hq; have h9 : R = C := hh; omega), h.rl, h.val.butS hb (fun q hq hh => by cases hq; have h9 : R + 1 = C := hh; omega), h.vl, h.acc.butS hb (fun q hq hh => by cases hq; have h9 : A = C := hh; omega), h.al, hf.row h.seen (by decide), h.nl, hf.row h.gid (by decide), FrT.blk hf h.gb (by decide), Below.trans h.ex (hb.below (fun q hq => by have h9 : q = C := hq; omega) h.ex.size)⟩
theorem AggI.rows (h : AggI w3 wr k nc R A MN Gb yr yv AL NL gv ids gcs) (hN : R + 2 ≤ Gb ∧ Gb < A) (hb : But (fun q => q = R ∨ q = R + 1) wr w2) (hx : Ext w3 w2) (h1 : OwnI w2 w3.heap.size 2 (.slice (some ⟨R, 0, none⟩) k k) yr2) (h2 : yr2.length = k) (h3 : OwnI w2 w3.heap.size 2 (.slice (some ⟨R + 1, 0, none⟩) nc nc) yv2) (h4 : yv2.length = nc) : AggI w3 w2 k nc R A MN Gb yr2 yv2 AL NL gv ids gcs :=
  ⟨h1, h2, h3, h4, h.acc.butS hb (fun q hq hh => by cases hq; have h9 : A = R ∨ A = R + 1 := hh; omega), h.al, h.seen.butS hb (fun q hq hh => by cases hq; have h9 : A + 1 = R ∨ A + 1 = R + 1 := hh; omega), h.nl,
    h.gid.butS hb (fun q hq hh => by have h8 := (World.ownsRow.lt h.gid q hq).1; have h9 : q = R ∨ q = R + 1 := hh; omega), hb.blk h.gb (fun hh => by have h9 : Gb = R ∨ Gb = R + 1 := hh; omega), hx⟩
theorem AggI.setA (h : AggI w3 wr k nc R A MN Gb yr yv AL NL gv ids gcs) (hN : R + 2 ≤ Gb ∧ Gb < A) (hR : w3.heap.size ≤ R) {i : Nat} {u : Int} (hU : OwnI w2 w3.heap.size 2 (.slice (some ⟨A, 0, none⟩) MN MN) (AL.set i u)) (hg : wr.grownBy w2 (some A)) : AggI w3 w2 k nc R A MN Gb yr yv (AL.set i u) NL gv ids gcs := by
  have hb : But (fun q => q = A) wr w2 := But.of_grown hg (fun q hq => by cases hq; rfl)
  exact ⟨h.row.butS hb (fun q hq hh => by cases hq; have h9 : R = A := hh; omega), h.rl, h.val.butS hb (fun q hq hh => by cases hq; have h9 : R + 1 = A := hh; omega), h.vl, hU, by rw [List.length_set]; exact h.al, h.seen.butS hb (fun q hq hh => by cases hq; have h9 : A + 1 = A := hh; omega), h.nl,
    h.gid.but (v' := .slice (some ⟨A, 0, none⟩) MN MN) hg (apart_types h.gid h.acc (by decide)), hb.blk h.gb (fun hh => by have h9 : Gb = A := hh; omega), h.ex.grown hg (fun q hq => by cases hq; omega)⟩
theorem AggI.setN (h : AggI w3 wr k nc R A MN Gb yr yv AL NL gv ids gcs) (hN : R + 2 ≤ Gb ∧ Gb < A) (hR : w3.heap.size ≤ R) {i : Nat} {u : Bool} (hU : OwnZ w2 w3.heap.size (.slice (some ⟨A + 1, 0, none⟩) MN MN) (NL.set i u)) (hg : wr.grownBy w2 (some (A + 1))) : AggI w3 w2 k nc R A MN Gb yr yv AL (NL.set i u) gv ids gcs := by
  have hb : But (fun q => q = A + 1) wr w2 := But.of_grown hg (fun q hq => by cases hq; rfl)
  exact ⟨h.row.butS hb (fun q hq hh => by cases hq; have h9 : R = A + 1 := hh; omega), h.rl, h.val.butS hb (fun q hq hh => by cases hq; have h9 : R + 1 = A + 1 := hh; omega), h.vl, h.acc.butS hb (fun q hq hh => by cases hq; have h9 : A = A + 1 := hh; omega), h.al, hU, by rw [List.length_set]; exact h.nl,
    h.gid.but (v' := .slice (some ⟨A + 1, 0, none⟩) MN MN) hg (apart_types h.gid h.seen (by decide)), hb.blk h.gb (fun hh => by have h9 : Gb = A + 1 := hh; omega), h.ex.grown hg (fun q hq => by cases hq; omega)⟩
end
theorem gid_keep {w w2 : World} {base g : Nat} {v : Value} {xs : List Int} {cur : List Value} (h : OwnI w base 3 v xs) (hB : Blk w g 113 cur) (hg : w.grownBy w2 (some g)) : OwnI w2 base 3 v xs :=
  h.butS (But.of_grown (S := fun q => q = g) hg (fun q hq => by cases hq; rfl)) (fun q hq hh => by
    have h9 : q = g := hh
    subst h9
    rcases h.2 with ⟨e1, _⟩ | ⟨g', cap', cur', e1, _, hx9, _⟩
    · subst e1; cases hq
    · subst e1
      cases hq
      have hB' : w.heap[g']? = some (Obj.cells cur.toArray 113) := hB
      rw [hB'] at hx9
      cases hx9)
theorem gIds_lt (gr : List Int) (rows : Nat → List Int) (sel : List Int) (j : Nat) (hj : j < sel.length) : ∃ g : Nat, g < gNum gr rows sel ∧ (gIds gr rows sel).getD j 0 = (g : Int) := by
  by_cases h0 : gr.length = 0
  · refine ⟨0, by unfold gNum; rw [if_pos h0]; omega, ?_⟩
    rw [gIds_nil rows sel gr h0]
    simp [hj]
  · obtain ⟨h1, h2, _⟩ := grK_law (K := keyJ gr rows sel) (w := gr.length) (keyJ_len gr rows sel) sel.length
    obtain ⟨g, hg, e⟩ := mem_getDL ((h2 (keyJ gr rows sel j)).2 ⟨j, hj, rfl⟩)
    refine ⟨g, by unfold gNum; rw [if_neg h0]; exact hg, ?_⟩
    rw [gIds_at _ _ _ _ hj]
    have : gidK (gKeys gr rows sel) (keyJ gr rows sel j) = g := gidK_of h1 hg e
    rw [this]
theorem gNum_le (gr : List Int) (rows : Nat → List Int) (sel : List Int) : gNum gr rows sel ≤ sel.length + 1 ∧ (0 < gNum gr rows sel → gNum gr rows sel = 1 ∨ gNum gr rows sel ≤ sel.length) := by
  unfold gNum
  split
  · exact ⟨by omega, fun _ => .inl rfl⟩
  · have h2 : (gKeys gr rows sel).length ≤ sel.length := (grK_law (K := keyJ gr rows sel) (w := gr.length) (keyJ_len gr rows sel) sel.length).2.2
    exact ⟨by omega, fun _ => .inr h2⟩
end Go.Proofs.YbyabwGreat
