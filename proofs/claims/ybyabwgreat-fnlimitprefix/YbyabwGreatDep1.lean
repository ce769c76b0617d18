/- Plain: the texts of spec.DepthText -/
import Derived.Test.YbyabwGreatGen9
namespace Go.Proofs.YbyabwGreat
open Go.RowKit
set_option maxRecDepth 100000
set_option linter.unusedVariables false

/-- A column's or a number's token; a flat chain of such with '+', '-', '*' between. -/
def IsLeaf (t : Int × Int) : Prop := TokOK t ∧ (t.1 = 13 ∨ t.1 = 14)
def IsOp3 (t : Int × Int) : Prop := t = (19, 0) ∨ t = (20, 0) ∨ t = (18, 0)
def chainT (t0 : Int × Int) (ps : List ((Int × Int) × (Int × Int))) : List (Int × Int) := t0 :: ps.flatMap fun p => [p.1, p.2]
def FlatC (t0 : Int × Int) (ps : List ((Int × Int) × (Int × Int))) : Prop := IsLeaf t0 ∧ ∀ p ∈ ps, IsOp3 p.1 ∧ IsLeaf p.2
theorem chainT_snoc (t0 : Int × Int) (ps : List ((Int × Int) × (Int × Int))) (o t : Int × Int) : chainT t0 (ps ++ [(o, t)]) = chainT t0 ps ++ [o] ++ [t] := by simp [chainT]
theorem render_chain (t0 : Int × Int) (ps : List ((Int × Int) × (Int × Int))) (o t : Int × Int) : render (chainT t0 (ps ++ [(o, t)])) = render (chainT t0 ps) ++ ([32] ++ ttext o ++ [32]) ++ ttext t := by
  rw [chainT_snoc, render_snoc _ _ (by simp), render_snoc _ _ (by simp [chainT])]
  simp
theorem op3_of (k : Int) (h1 : 4 ≤ k) (h2 : k ≤ 6) : ∃ o, IsOp3 o ∧ opT k = ttext o := by
  have hk : k = 4 ∨ k = 5 ∨ k = 6 := by omega
  rcases hk with rfl | rfl | rfl
  · exact ⟨(19, 0), .inl rfl, rfl⟩
  · exact ⟨(20, 0), .inr (.inl rfl), rfl⟩
  · exact ⟨(18, 0), .inr (.inr rfl), rfl⟩
/-- What stands ahead of the base, from inside out. -/
def wpre : Nat → List UInt8
  | 0 => []
  | n + 1 => wpre n ++ (if n % 3 = 0 then [40] else if n % 3 = 1 then [45] else [84, 79, 78, 32])
theorem wpre_len : ∀ n, (wpre n).length ≤ 4 * n
  | 0 => by simp [wpre]
  | n + 1 => by
    have ih := wpre_len n
    simp only [wpre]
    split
    · simp; omega
    · split
      · simp; omega
      · simp; omega
theorem wpre_head : ∀ n, 0 < n → (wpre n)[0]? = some 40
  | 0, h => by omega
  | 1, _ => rfl
  | n + 2, _ => by
    have ih := wpre_head (n + 1) (by omega)
    rw [wpre, List.getElem?_append_left (by have := (List.getElem?_eq_some_iff.1 ih).1; exact this)]
    exact ih
theorem wpre_0 (k : Nat) (h : k % 3 = 0) : wpre (k + 1) = wpre k ++ [40] := by simp [wpre, h]
theorem wpre_1 (k : Nat) (h : k % 3 = 1) : wpre (k + 1) = wpre k ++ [45] := by simp [wpre, h]
theorem wpre_2 (k : Nat) (h : k % 3 = 2) : wpre (k + 1) = wpre k ++ [84, 79, 78, 32] := by simp [wpre, h]
theorem OwnB.but {w w' : World} {base : Nat} {v v' : Value} {l : List UInt8} (h : OwnB w base v l) (hg : w.grownBy w' v'.ownBlock) (ha : Apart v v') : OwnB w' base v l := World.ownsRow.kept h hg ha
theorem OwnB.lt {w : World} {base : Nat} {v : Value} {l : List UInt8} (h : OwnB w base v l) : ∀ q, v.ownBlock = some q → q < w.heap.size := fun q hq => (World.ownsRow.lt h q hq).2
/-- Two rows of bytes whose first bytes differ lie apart. -/
theorem OwnB.apart {w : World} {base : Nat} {v v' : Value} {l l' : List UInt8} (h : OwnB w base v l) (h' : OwnB w base v' l') (x y : UInt8) (hx : l[0]? = some x) (hy : l'[0]? = some y) (hne : x ≠ y) : Apart v v' := by
  obtain ⟨a, c, rfl, ha⟩ := h.form
  obtain ⟨a', c', rfl, ha'⟩ := h'.form
  rcases ha with ⟨rfl, _⟩ | ⟨g, rfl⟩
  · exact .inl rfl
  · rcases ha' with ⟨rfl, _⟩ | ⟨g', rfl⟩
    · exact .inr (by simp [Value.ownBlock])
    · refine .inr (fun hh => ?_)
      have hgg : g = g' := by simpa [Value.ownBlock] using hh
      subst hgg
      obtain ⟨h1, hx1⟩ := List.getElem?_eq_some_iff.1 hx
      obtain ⟨h2, hy1⟩ := List.getElem?_eq_some_iff.1 hy
      have c1 := h.cell 0 h1
      have c2 := h'.cell 0 h2
      rw [c1] at c2
      rw [hx1, hy1] at c2
      simp at c2
      exact hne (UInt8.toNat_inj.1 (by omega))
def sel : List UInt8 := [83, 69, 76, 69, 67, 84, 32]
def RetD (n : Nat) (w : World) : Ending → World → Prop := fun en w' => ∃ (t0 : Int × Int) (ps : List ((Int × Int) × (Int × Int))) (m : List UInt8), FlatC t0 ps ∧ SpJ m ∧ Ext w w' ∧
  en = .returned (.tuple #[.string (tx (sel ++ (wpre n).reverse ++ render (chainT t0 ps) ++ List.replicate ((n + 2) / 3) 41 ++ m)), .string (tx (sel ++ render (chainT t0 ps) ++ m)), .int .i64 ((n + 1) / 3 : Nat), .int .i64 (n / 3 : Nat)])
theorem conv_any {w : World} {base : Nat} {a : Option Addr} {cap : Nat} {l : List UInt8} (h : OwnB w base (.slice a l.length cap) l) :
    (convert 22 9 (.slice a l.length cap)).run Yabn.prog w = .ok (.string (tx l)) w := by
  obtain ⟨a', cap', e, hc⟩ := h.form
  injection e with e1 e2 e3
  subst e1 e3
  rcases hc with ⟨rfl, rfl, h0⟩ | ⟨g, rfl⟩
  · have := conv_nil w l.length
    rw [h0] at this ⊢
    exact this
  · exact conv_str h (by simp)
theorem GenAt.reset {w : World} {G S : Nat} {a : Option Addr} {c : Nat} {zs : List Int} {pos : Nat} {v : Value} {l : List UInt8} (h : GenAt w G S a c zs pos v l) : GenAt (w.setCell ⟨G, 1, none⟩ (.slice none 0 0)) G S a c zs pos (.slice none 0 0) [] := by
  have hb : But (fun q => q = G) w (w.setCell ⟨G, 1, none⟩ (.slice none 0 0)) := But.of_grown (grown_setCell _ ⟨G, 1, none⟩ _) (fun q hq => by cases hq; rfl)
  have hsg := h.sg
  exact ⟨h.g.stored 1 (.slice none 0 0), h.src.but hb (by omega) (fun h0 p hp => by have := h.ap h0 p hp; omega), OwnB.nil _ _, hsg, h.ap⟩
section
variable {ops : Array Oper} {rest : List Oper} {o : Oper} {a : Act} {Q : Exit → Act → World → Prop} {w : World}
/-- append of a byte, and where the row lies. -/
theorem app_byteL (hg : o.guard = none) {s x : Operand} (ho : o.op = .call { callee := .builtin .append, args := #[s, x], argTypes := #[22, 22] })
    (base : Nat) (hE : base ≤ w.heap.size) (v : Value) (l : List UInt8) (y : UInt8) (z : Int) (hz : z = (y.toNat : Int)) (hs : a.eval s = v) (hown : OwnB w base v l)
    (B c : Nat) (hx : a.eval x = .slice (some ⟨B, 0, none⟩) 1 c) (hblk : w.heap[B]? = some (.cells #[.int .u8 z] 5 (0, 0))) (hb : l.length < 2 ^ 39)
    (h : ∀ v' w', OwnB w' base v' (l ++ [y]) → w.grownBy w' v.ownBlock → (∀ q, v'.ownBlock = some q → v.ownBlock = some q ∨ q = w.heap.size) → wpList Yabn.prog ops Q rest (a.put o.dst v') w') : wpList Yabn.prog ops Q (o :: rest) a w := by
  obtain ⟨i, h2, h3, h4, h5⟩ := info_parts info_u8
  subst hz
  refine wpList_app hg ho 5 Yabn.underlying22 h2 h3 h4 h5 (by simp [Value.cells]) (by omega) (by omega) base hE v l.length (bs l) hs hown B 1 c [.int .u8 y.toNat] hx hblk (by simp) (by simp [Value.oneCell']) (by omega) (by omega) ?_
  intro g cap w' ho' hgr hor hlt
  refine h _ w' ?_ hgr (fun q hq => ?_)
  · unfold OwnB
    rw [bs_append, List.length_append]
    exact ho'
  · cases hq
    exact hor
end
end Go.Proofs.YbyabwGreat
