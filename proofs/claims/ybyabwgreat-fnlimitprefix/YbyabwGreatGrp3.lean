/- The grouping, plainly; walk: impl.groupRows -/
import Derived.Test.YbyabwGreatGrp2
import Derived.Test.YbyabwGreatEx5
namespace Go.Proofs.YbyabwGreat
open Go.RowKit
set_option maxRecDepth 100000
set_option linter.unusedVariables false
set_option linter.unusedSimpArgs false

/-- The key of the j-th selected row. -/
def keyJ (gr : List Int) (rows : Nat → List Int) (sel : List Int) (j : Nat) : List Int := gr.map (fun g => (rows (sel.getD j 0).toNat).getD g.toNat 0)
theorem keyJ_len (gr : List Int) (rows : Nat → List Int) (sel : List Int) (j : Nat) : (keyJ gr rows sel j).length = gr.length := by simp [keyJ]
theorem keyJ_at (gr : List Int) (rows : Nat → List Int) (sel : List Int) (j c : Nat) (h : c < gr.length) : (keyJ gr rows sel j).getD c 0 = (rows (sel.getD j 0).toNat).getD (gr.getD c 0).toNat 0 := by simp [keyJ, h]
def gKeys (gr : List Int) (rows : Nat → List Int) (sel : List Int) : List (List Int) := grK (keyJ gr rows sel) sel.length
def gNum (gr : List Int) (rows : Nat → List Int) (sel : List Int) : Nat := if gr.length = 0 then 1 else (gKeys gr rows sel).length
def gIds (gr : List Int) (rows : Nat → List Int) (sel : List Int) : List Int := (List.range sel.length).map (fun j => ((gidK (gKeys gr rows sel) (keyJ gr rows sel j) : Nat) : Int))
theorem gIds_len (gr : List Int) (rows : Nat → List Int) (sel : List Int) : (gIds gr rows sel).length = sel.length := by simp [gIds]
theorem gIds_at (gr : List Int) (rows : Nat → List Int) (sel : List Int) (j : Nat) (h : j < sel.length) : (gIds gr rows sel).getD j 0 = ((gidK (gKeys gr rows sel) (keyJ gr rows sel j) : Nat) : Int) := by simp [gIds, h]
theorem list_extI {a b : List Int} (hl : a.length = b.length) (h : ∀ i, i < a.length → a.getD i 0 = b.getD i 0) : a = b := by
  apply List.ext_getElem hl
  intro i h1 h2
  have := h i h1
  rw [List.getD_eq_getElem?_getD, List.getD_eq_getElem?_getD, List.getElem?_eq_getElem h1, List.getElem?_eq_getElem h2] at this
  exact this
/-- No columns to group by: one group. -/
theorem keyJ_nil (rows : Nat → List Int) (sel : List Int) (gr : List Int) (h : gr.length = 0) (j : Nat) : keyJ gr rows sel j = [] := List.eq_nil_of_length_eq_zero (by rw [keyJ_len]; exact h)
theorem flat_nil : ∀ (D : List (List Int)), (∀ d ∈ D, d = []) → D.flatten = [] := by
  intro D
  induction D with
  | nil => intro _; rfl
  | cons d D ih =>
    intro h
    rw [List.flatten_cons, h d (by simp), ih (fun x hx => h x (by simp [hx]))]
    rfl
theorem gKeys_nil (rows : Nat → List Int) (sel : List Int) (gr : List Int) (h : gr.length = 0) : (gKeys gr rows sel).flatten = [] := by
  refine flat_nil _ (fun d hd => ?_)
  obtain ⟨_, h2, _⟩ := grK_law (K := keyJ gr rows sel) (w := gr.length) (keyJ_len gr rows sel) sel.length
  obtain ⟨j, _, e⟩ := (h2 d).1 hd
  rw [← e]
  exact keyJ_nil rows sel gr h j
theorem gIds_nil (rows : Nat → List Int) (sel : List Int) (gr : List Int) (h : gr.length = 0) : gIds gr rows sel = List.replicate sel.length 0 := by
  refine list_extI (by rw [gIds_len]; simp) (fun j hj => ?_)
  rw [gIds_len] at hj
  rw [gIds_at _ _ _ _ hj]
  obtain ⟨h1, h2, _⟩ := grK_law (K := keyJ gr rows sel) (w := gr.length) (keyJ_len gr rows sel) sel.length
  have hm : keyJ gr rows sel j ∈ gKeys gr rows sel := (h2 _).2 ⟨j, hj, rfl⟩
  obtain ⟨g, hg, e⟩ := mem_getDL hm
  have e0 : g = 0 := by
    rcases Nat.eq_zero_or_pos g with h0 | h0
    · exact h0
    · have a := h1.up 0 g h0 hg
      have e1 : (gKeys gr rows sel).getD 0 [] = [] := by
        obtain ⟨i, _, e⟩ := (h2 _).1 (getD_memL (D := gKeys gr rows sel) (i := 0) (by omega))
        rw [← e]
        exact keyJ_nil rows sel gr h i
      have e2 : (gKeys gr rows sel).getD g [] = [] := by rw [e]; exact keyJ_nil rows sel gr h j
      unfold gKeys at e1 e2
      rw [e1, e2] at a
      simp [cmpL] at a
  have e3 : gidK (gKeys gr rows sel) (keyJ gr rows sel j) = g := gidK_of h1 hg e
  rw [e3, e0]
  simp [hj]
/-- The keys side by side. -/
def flK (K : Nat → List Int) (w m : Nat) : List Int := (List.range (m * w)).map (fun t => (K (t / w)).getD (t % w) 0)
theorem flK_len (K : Nat → List Int) (w m : Nat) : (flK K w m).length = m * w := by simp [flK]
theorem flK_at (K : Nat → List Int) (w m j c : Nat) (hj : j < m) (hc : c < w) : (flK K w m).getD (j * w + c) 0 = (K j).getD c 0 := by
  have h := at_lt hj hc
  have e1 : (j * w + c) / w = j := by rw [Nat.mul_comm, Nat.mul_add_div (by omega), Nat.div_eq_of_lt hc]; omega
  have e2 : (j * w + c) % w = c := by rw [Nat.mul_comm, Nat.mul_add_mod, Nat.mod_eq_of_lt hc]
  unfold flK
  rw [List.getD_eq_getElem?_getD, List.getElem?_map, List.getElem?_range h]
  simp [e1, e2]
theorem flK_flat (K : Nat → List Int) (w m : Nat) (hK : ∀ j, (K j).length = w) : FlatK K w m (flK K w m) := ⟨hK, flK_len K w m, fun j c hj hc => flK_at K w m j c hj hc⟩
/-- The group of the x-th row in order. -/
theorem gid_at {K : Nat → List Int} {w m : Nat} (hK : ∀ j, (K j).length = w) (ord : List Int) (hl : ord.length = m) (hs : KS.SegUp (RK K) ord 0 ord.length) (x : Nat) (hx : x < m) :
    0 < (ddK K ord (x + 1)).length ∧ gidK (ddK K ord m) (K (ord.getD x 0).toNat) = (ddK K ord (x + 1)).length - 1 := by
  have h1 := ddK_law hK ord hs (x + 1) (by omega)
  have h2 := ddK_law hK ord hs m (by omega)
  obtain ⟨h3, h4⟩ := h1.last (by omega)
  obtain ⟨E, e⟩ := ddK_pre (K := K) ord (x + 1) m (by omega)
  refine ⟨h3, gidK_of h2.up ?_ ?_⟩
  · rw [e, List.length_append]; omega
  · rw [e, List.getD_eq_getElem?_getD, List.getElem?_append_left (by omega), ← List.getD_eq_getElem?_getD, h4, Nat.add_sub_cancel]
theorem ddK_new {K : Nat → List Int} {ord : List Int} {x : Nat} (h : x = 0 ∨ cmpL (K (ord.getD (x - 1) 0).toNat) (K (ord.getD x 0).toNat) ≠ 0) : ddK K ord (x + 1) = ddK K ord x ++ [K (ord.getD x 0).toNat] := by rw [ddK, if_pos h]
theorem ddK_old {K : Nat → List Int} {ord : List Int} {x : Nat} (h0 : x ≠ 0) (h : cmpL (K (ord.getD (x - 1) 0).toNat) (K (ord.getD x 0).toNat) = 0) : ddK K ord (x + 1) = ddK K ord x := by rw [ddK, if_neg (by omega)]
def gpz : List Value := [.int .i64 0, .int .i64 0, .slice none 0 0, .slice none 0 0]
theorem size_gp : (Yabn.prog.info? 113).map (·.size) = some 4 := by kernel_rfl
def gpCells (gr : List Int) (rows : Nat → List Int) (sel : List Int) (ka ga : Option Addr) (kc gc : Nat) : List Value := [.int .i64 gr.length, .int .i64 (gNum gr rows sel), .slice ka (gKeys gr rows sel).flatten.length kc, .slice ga sel.length gc]
structure OwnG (w : World) (base : Nat) (gr : List Int) (rows : Nat → List Int) (sel : List Int) (ka ga : Option Addr) (kc gc : Nat) : Prop where
  keys : OwnI w base 2 (.slice ka (gKeys gr rows sel).flatten.length kc) (gKeys gr rows sel).flatten
  gid : OwnI w base 3 (.slice ga sel.length gc) (gIds gr rows sel)
def RetGrp (gr : List Int) (rows : Nat → List Int) (sel : List Int) (w : World) : Ending → World → Prop := fun en w' => ∃ ka ga kc gc, en = .returned (.agg (gpCells gr rows sel ka ga kc gc).toArray) ∧ OwnG w' w.heap.size gr rows sel ka ga kc gc ∧ Ext w w'
theorem flat_len {w : Nat} : ∀ (D : List (List Int)), (∀ d ∈ D, d.length = w) → D.flatten.length = D.length * w := by
  intro D
  induction D with
  | nil => intro _; simp
  | cons d D ih =>
    intro h
    rw [List.flatten_cons, List.length_append, h d (by simp), ih (fun x hx => h x (by simp [hx])), List.length_cons, Nat.add_mul]
    omega
end Go.Proofs.YbyabwGreat
