/- append(s, x) whose answer is thrown away: the slice that it was put to reads as before. Slices of pairs. Seat-independent. -/
import Derived.Test.YbyabwGreatOwnP
import Derived.ArgAppend
namespace Go.Proofs.YbyabwGreat
open Go.RowKit
set_option linter.unusedVariables false

theorem ownsRow_set_past {w : World} {base : Nat} {e : TypeId} {size g n cap : Nat} {xs : List Value} (h : w.ownsRow base e size (.slice (some ⟨g, 0, none⟩) n cap) n xs) (j : Nat) (hj : n * size ≤ j) (u : Value) :
    (w.setCell ⟨g, j, none⟩ u).ownsRow base e size (.slice (some ⟨g, 0, none⟩) n cap) n xs := by
  have := (World.ownsRow.stored h j u).1
  rwa [List.set_eq_of_length_le (by rw [h.1]; exact hj)] at this

theorem ownsRow_sets_past {base : Nat} {e : TypeId} {size g n cap : Nat} {xs : List Value} : ∀ (news : List Value) (j : Nat) (w : World), n * size ≤ j → w.ownsRow base e size (.slice (some ⟨g, 0, none⟩) n cap) n xs →
    (w.setCells g j news).ownsRow base e size (.slice (some ⟨g, 0, none⟩) n cap) n xs
  | [], j, w, hj, h => h
  | u :: r, j, w, hj, h => ownsRow_sets_past r (j + 1) _ (by omega) (ownsRow_set_past h j hj u)

theorem below_sets {B g : Nat} {w0 : World} (hg : B ≤ g) : ∀ (news : List Value) (j : Nat) (w : World), Below B w0 w → Below B w0 (w.setCells g j news)
  | [], j, w, h => h
  | u :: r, j, w, h => below_sets hg r (j + 1) _ (Below.setCell h hg u)

section
variable {P : Program} {ops : Array Oper} {rest : List Oper} {o : Oper} {a : Act} {Q : Exit → Act → World → Prop} {w : World}
theorem wpList_probe (hg : o.guard = none) {s x : Operand} {t : TypeId} (ho : o.op = .call { callee := .builtin .append, args := #[s, x], argTypes := #[t, t] })
    (e : TypeId) {i : TypeInfo} {z : Value} {size bytes : Nat} (ht : P.underlying t = some (.slice e)) (hi : P.info? e = some i) (hz : i.zero = some z) (hsize : i.size = size) (hby : i.bytes = bytes) (hzs : z.cells.size = size) (hpos : 0 < size)
    (base : Nat) (hE : base ≤ w.heap.size) (v : Value) (n : Nat) (xs : List Value) (hs : a.eval s = v) (hown : w.ownsRow base e size v n xs)
    (B c : Nat) (news : List Value) (hx : a.eval x = .slice (some ⟨B, 0, none⟩) 1 c) (hblk : w.heap[B]? = some (.cells news.toArray e (0, 0))) (hn : news.length = size) (h1 : ∀ u ∈ news, u.oneCell' = true)
    (hm : n + 1 ≤ maxLen) (hbytes : (n + 1) * bytes ≤ 140737488355328)
    (h : ∀ v' w', w'.ownsRow base e size v n xs → Below base w w' → wpList P ops Q rest (a.put o.dst v') w') : wpList P ops Q (o :: rest) a w := by
  have hc : ∀ j u, news[j]? = some u → w.cell? ((⟨B, 0, none⟩ : Addr).add j) = some u := fun j u hu => by
    have := World.news_of_block hblk j u (by simpa using hu)
    exact this
  have hgb : ∀ w', w.grownBy w' none → Below base w w' := fun w' hgr => ⟨hgr.os, hgr.tape, hgr.output, hgr.size, fun k hk => hgr.block k (by omega) (by simp)⟩
  rcases hown.2 with ⟨rfl, rfl⟩ | ⟨g, cap, cur, rfl, hgb2, hh, hnc, hmc, hsz, htake⟩
  · obtain rfl : xs = [] := List.eq_nil_of_length_eq_zero (by simpa using hown.1)
    exact wpList_append_grows w hg s x t ho e i z size bytes ht hi hz hsize hby hzs hpos none 0 0 [] hs (fun _ => ⟨rfl, rfl⟩) (by simp) (fun b hb => by cases hb) ⟨B, 0, none⟩ 1 c news hx (by omega) hc h1 (by omega) hm hbytes
      (fun v' w' _ hgr => h v' w' (World.ownsRow_nil w' base e size) (hgb w' hgr))
  · have hcell : ∀ j, w.cell? ⟨g, j, none⟩ = cur[j]? := fun j => by rw [cell_of_row w g j cur e (0, 0) hh]
    refine wpList_append_arg w hg s x t ho e i z size bytes ht hi hz hsize hby hzs hpos g 0 n cap xs hs hown.1 ?_ ⟨B, 0, none⟩ 1 c news hx (by omega) hc h1 ?_ hm hbytes ?_ ?_
    · intro j u hu
      have hjl : j < n * size := by
        have := (List.getElem?_eq_some_iff.1 hu).1
        rwa [hown.1] at this
      rw [Nat.zero_add, hcell]
      rw [← htake, List.getElem?_take, if_pos hjl] at hu
      simpa using hu
    · intro hr j hj
      rw [Nat.zero_add, hcell]
      have hmul : (n + 1) * size ≤ cap * size := Nat.mul_le_mul_right _ hr
      rw [Nat.add_mul, Nat.one_mul] at hmul
      have hlt : n * size + j < cur.size := by omega
      refine ⟨by simp [hlt], ?_⟩
      exact World.ownsRow.frozenAt hown (n * size + j)
    · intro hr
      rw [Nat.zero_add]
      exact h _ _ (ownsRow_sets_past news _ w (Nat.le_refl _) hown) (below_sets hgb2 news _ w (Below.refl base w))
    · intro hlt v' w' _ hgr
      refine h v' w' ⟨hown.1, .inr ⟨g, cap, cur, rfl, hgb2, ?_, hnc, hmc, hsz, htake⟩⟩ (hgb w' hgr)
      rw [hgr.block g (World.ownsRow.lt hown g rfl).2 (by simp)]
      exact hh
end

theorem take_succ_getDP (xs : List (Int × Int)) (k : Nat) (h : k < xs.length) : xs.take k ++ [xs.getD k (0, 0)] = xs.take (k + 1) := by
  rw [List.take_succ_eq_append_getElem h]; simp [List.getElem?_eq_getElem h]

def RetPairs (e : TypeId) (xs : List (Int × Int)) (w : World) : Ending → World → Prop := fun en w' => ∃ a cap, en = .returned (.slice a xs.length cap) ∧ OwnP w' w.heap.size e (.slice a xs.length cap) xs ∧ Ext w w'
/-- A call that hands nothing back and leaves the blocks below base alone. -/
def RetUnit (base : Nat) (w : World) : Ending → World → Prop := fun en w' => en = .returned (.tuple #[]) ∧ Below base w w'
def RetTrue (w : World) : Ending → World → Prop := fun en w' => en = .returned (.bool true) ∧ Ext w w'
end Go.Proofs.YbyabwGreat
