/- The plan answers what the query asks. No Go here. -/
import Derived.Test.YbyabwGreatRunP
import Derived.Test.YbyabwGreatPrsQ
import Derived.Test.YbyabwGreatEx2
import Derived.Test.YbyabwGreatEx6
namespace Go.Proofs.YbyabwGreat
open Go.RowKit
set_option linter.unusedVariables false
set_option linter.unusedSimpArgs false

theorem slTo_congr {p p' : Pl} {f f' : Nat → List Int} : ∀ n, (∀ i, i < n → selB p (f i) = selB p' (f' i)) → slTo p f n = slTo p' f' n := by
  intro n
  induction n with
  | zero => intro _; rfl
  | succ n ih =>
    intro h
    simp only [slTo]
    rw [ih (fun i hi => h i (by omega)), h n (by omega)]
theorem run_congr {p p' : Pl} (hs : ∀ row, selB p row = selB p' row) (hl : p.its.length = p'.its.length) (hi : ∀ row k, k < p.its.length → itV p row k = itV p' row k) (ha : ∀ k, k < p.its.length → (p.its.getD k (0, 0)).1 = (p'.its.getD k (0, 0)).1) (hg : p.gr = p'.gr) (hli : p.li = p'.li) (hag : p.ag = p'.ag) (rows : Nat → List Int) (n nc : Nat) : run p rows n nc = run p' rows n nc := by
  have e : slTo p rows n = slTo p' rows n := slTo_congr n (fun i _ => hs _)
  unfold run
  have em : runM p rows n = runM p' rows n := by unfold runM; rw [e, hg, hag]
  rw [em, hli, hl]
  refine flC_congr (fun g k _ hk => ?_)
  rw [← hl] at hk
  unfold runC
  rw [hag, e, hg]
  unfold grpV vJ
  rw [ha k hk]
  simp only [hi _ k hk]
def plQ (q : Qy) (k : Nat) : Pl := ⟨k, q.nd, q.wh, q.its, q.gr, q.li, aggW q.its q.gr⟩
theorem plan_agg {q : Qy} {n : Nat} (h : CmOK q n) : ∀ j, j < q.its.length → ((plan q n).its.getD j (0, 0)).1 = (q.its.getD j (0, 0)).1 := by
  obtain ⟨c, wh, e, hwf, hlen, hcase⟩ := cW_law (zr := List.replicate n 0) h
  have k := cK_law (zr := List.replicate n 0) h c hwf q.its.length (Nat.le_refl _)
  have hits : (plan q n).its = (cK q.nd (List.replicate n 0) q.its c q.its.length).2 := by unfold plan; rw [e]
  intro j hj
  rw [hits]
  exact (k.it j hj).1
theorem plan_run {q : Qy} {k : Nat} (h : CmOK q k) (rows : Nat → List Int) (n nc : Nat) : run (plan q k) rows n nc = run (plQ q k) rows n nc := by
  obtain ⟨_, _, hl, hwh, hit⟩ := plan_law h
  refine run_congr (p := plan q k) (p' := plQ q k) (fun row => ?_) hl (fun row j hj => ?_) (fun j hj => ?_) rfl rfl rfl rows n nc
  · unfold selB plQ
    simp only
    rcases hwh with ⟨h1, h2⟩ | ⟨h0, ⟨h1, h2⟩ | ⟨x, h1, h2, h3⟩⟩
    · rw [h1, h2]; simp
    · rw [h1]
      have := h2 row
      simp [this]
    · rw [h1, Int.toNat_natCast, h3 row, decide_eq_false (by omega), decide_eq_false (show ¬ q.wh = -1 by omega)]
  · rw [hl] at hj
    unfold itV plQ
    simp only
    rcases hit j hj with ⟨h1, h2⟩ | ⟨h0, x, h1, h2, h3⟩
    · rw [h1, h2]; simp
    · rw [h1, if_neg (by omega), if_neg (by omega), Int.toNat_natCast, h3 row]
  · rw [hl] at hj
    exact plan_agg h j hj
/-- What Execute answers for a text and a table. -/
def Exr (x : ByteArray) (cs : List Col) (n : Int) (r : Option (Nat × List Int)) : Prop :=
  (¬ ValidT cs n ∧ r = none) ∨ (ValidT cs n ∧ ((Pq x none ∧ r = none) ∨ ∃ q, Pq x (some q) ∧ ((¬ CmOK q cs.length ∧ r = none) ∨ (CmOK q cs.length ∧ ((costV (plan q cs.length) cs.length n.toNat = false ∧ r = none) ∨ (costV (plan q cs.length) cs.length n.toNat = true ∧ r = some (q.its.length, run (plQ q cs.length) (rowT cs) n.toNat cs.length)))))))
theorem Exr.det {x : ByteArray} {cs : List Col} {n : Int} {r r' : Option (Nat × List Int)} (h : Exr x cs n r) (h' : Exr x cs n r') : r = r' := by
  rcases h with ⟨h1, rfl⟩ | ⟨h1, ⟨h2, rfl⟩ | ⟨q, h2, ⟨h3, rfl⟩ | ⟨h3, ⟨h4, rfl⟩ | ⟨h4, rfl⟩⟩⟩⟩ <;>
  rcases h' with ⟨k1, rfl⟩ | ⟨k1, ⟨k2, rfl⟩ | ⟨q', k2, ⟨k3, rfl⟩ | ⟨k3, ⟨k4, rfl⟩ | ⟨k4, rfl⟩⟩⟩⟩ <;>
  first
  | rfl
  | exact absurd k1 h1
  | exact absurd h1 k1
  | (cases h2.det k2; done)
  | (cases h2.det k2; rfl)
  | (cases h2.det k2; exact absurd k3 h3)
  | (cases h2.det k2; exact absurd h3 k3)
  | (cases h2.det k2; rw [h4] at k4; cases k4)
def RetEx (x : ByteArray) (cs : List Col) (n : Int) (w : World) : Ending → World → Prop := fun en w' => Ext w w' ∧
  ((Exr x cs n none ∧ en = .returned (.tuple #[.agg #[.int .i64 0, .slice none 0 0], .bool false])) ∨
   ∃ c xs a cap, Exr x cs n (some (c, xs)) ∧ en = .returned (.tuple #[.agg #[.int .i64 (c : Nat), .slice a xs.length cap], .bool true]) ∧ IntsAt w' a xs ∧ xs.length < 2 ^ 39)
end Go.Proofs.YbyabwGreat
