/- Walk: spec.RenderTokens -/
import Derived.Test.YbyabwGreatGen4
namespace Go.Proofs.YbyabwGreat
open Go.RowKit
set_option maxRecDepth 100000
set_option linter.unusedVariables false
set_option linter.unusedSimpArgs false

def OwnB (w : World) (base : Nat) (v : Value) (l : List UInt8) : Prop := w.ownsRow base 5 1 v l.length (bs l)
theorem bs_len (l : List UInt8) : (bs l).length = l.length := by simp [bs]
theorem bs_append (l m : List UInt8) : bs (l ++ m) = bs l ++ bs m := by simp [bs]
theorem bs_str (l : List UInt8) : Go.Lib.strCells (tx l) = bs l := by simp [Go.Lib.strCells, tx, bs]
section
variable {w w' : World} {base : Nat} {v : Value} {l m : List UInt8}
theorem OwnB.nil (w : World) (base : Nat) : OwnB w base (.slice none 0 0) [] := World.ownsRow_nil w base _ 1
theorem OwnB.ext (h : OwnB w base v l) (he : Ext w w') : OwnB w' base v l := ownsRow_ext h he
theorem OwnB.alloc (h : OwnB w base v l) (o : Obj) : OwnB (w.alloc o) base v l := World.ownsRow.alloc h o
theorem OwnB.block (h : OwnB w base v l) : ∀ k, v.ownBlock = some k → base ≤ k := fun k hk => (World.ownsRow.lt h k hk).1
theorem OwnB.mono {base' : Nat} (h : OwnB w base v l) (hb : base' ≤ base) : OwnB w base' v l := ownsRow_mono h hb
theorem OwnB.congr (h : OwnB w base v l) (he : l = m) : OwnB w base v m := he ▸ h
theorem OwnB.butS {Q : Nat → Prop} (h : OwnB w base v l) (hb : But Q w w') (hn : ∀ k, v.ownBlock = some k → ¬ Q k) : OwnB w' base v l := hb.row h hn
theorem OwnB.form (h : OwnB w base v l) : ∃ a cap, v = .slice a l.length cap ∧ (a = none ∧ cap = 0 ∧ l = [] ∨ ∃ g, a = some ⟨g, 0, none⟩) := by
  rcases h.2 with ⟨rfl, h0⟩ | ⟨g, cap, cur, rfl, _⟩
  · exact ⟨none, 0, by rw [h0], .inl ⟨rfl, rfl, List.eq_nil_of_length_eq_zero h0⟩⟩
  · exact ⟨_, cap, rfl, .inr ⟨g, rfl⟩⟩
theorem OwnB.cell {g n cap : Nat} (h : OwnB w base (.slice (some ⟨g, 0, none⟩) n cap) l) (j : Nat) (hj : j < l.length) : w.cell? ⟨g, j, none⟩ = some (.int .u8 (l[j].toNat : Int)) := by
  have := World.ownsRow.cells h (g := g) rfl j (.int .u8 (l[j].toNat : Int)) (by simp [bs, List.getElem?_eq_getElem hj])
  rw [Addr.add_lit, Nat.zero_add] at this
  exact this
end
theorem info_u8 : (Yabn.prog.info? 5).map (fun i => (i.zero, i.size, i.bytes)) = some (some (.int .u8 0), 1, 1) := by kernel_rfl
section
variable {ops : Array Oper} {rest : List Oper} {o : Oper} {a : Act} {Q : Exit → Act → World → Prop} {w : World}
theorem app_byte (hg : o.guard = none) {s x : Operand} (ho : o.op = .call { callee := .builtin .append, args := #[s, x], argTypes := #[22, 22] })
    (base : Nat) (hE : base ≤ w.heap.size) (v : Value) (l : List UInt8) (y : UInt8) (z : Int) (hz : z = (y.toNat : Int)) (hs : a.eval s = v) (hown : OwnB w base v l)
    (B c : Nat) (hx : a.eval x = .slice (some ⟨B, 0, none⟩) 1 c) (hblk : w.heap[B]? = some (.cells #[.int .u8 z] 5 (0, 0))) (hb : l.length < 2 ^ 39)
    (h : ∀ v' w', OwnB w' base v' (l ++ [y]) → w.grownBy w' v.ownBlock → wpList Yabn.prog ops Q rest (a.put o.dst v') w') : wpList Yabn.prog ops Q (o :: rest) a w := by
  obtain ⟨i, h2, h3, h4, h5⟩ := info_parts info_u8
  subst hz
  refine wpList_app hg ho 5 Yabn.underlying22 h2 h3 h4 h5 (by simp [Value.cells]) (by omega) (by omega) base hE v l.length (bs l) hs hown B 1 c [.int .u8 y.toNat] hx hblk (by simp) (by simp [Value.oneCell']) (by omega) (by omega) ?_
  intro g cap w' ho' hgr hor hlt
  refine h _ w' ?_ hgr
  unfold OwnB
  rw [bs_append, List.length_append]
  exact ho'
theorem app_str (hg : o.guard = none) {s x : Operand} (ho : o.op = .call { callee := .builtin .append, args := #[s, x], argTypes := #[22, 9] })
    (base : Nat) (hE : base ≤ w.heap.size) (v : Value) (l m : List UInt8) (hs : a.eval s = v) (hown : OwnB w base v l) (hx : a.eval x = .string (tx m)) (hb : l.length + m.length < 2 ^ 40)
    (h : ∀ v' w', OwnB w' base v' (l ++ m) → w.grownBy w' v.ownBlock → wpList Yabn.prog ops Q rest (a.put o.dst v') w') : wpList Yabn.prog ops Q (o :: rest) a w := by
  obtain ⟨i, h2, h3, h4, h5⟩ := info_parts info_u8
  refine Go.Lib.wpList_append_own_string w hg s x 22 9 ho base 5 i Yabn.underlying22 Yabn.underlying9 h2 h3 h4 h5 v l.length (bs l) hs hown (tx m) hx (by rw [tx_size]; unfold maxLen; omega) (by rw [tx_size]; omega) hE ?_
  intro v' w' ho' hgr _
  refine h v' w' ?_ hgr
  unfold OwnB
  rw [bs_append, List.length_append, ← bs_str m, ← tx_size m]
  exact ho'
end
theorem conv_str {w : World} {base : Nat} {a : Option Addr} {cap : Nat} {l : List UInt8} (h : OwnB w base (.slice a l.length cap) l) (hn : a ≠ none) :
    (convert 22 9 (.slice a l.length cap)).run Yabn.prog w = .ok (.string (tx l)) w := by
  obtain ⟨a', cap', e, hc⟩ := h.form
  injection e with e1 e2 e3
  subst e1 e3
  rcases hc with ⟨rfl, _⟩ | ⟨g, rfl⟩
  · exact absurd rfl hn
  · exact run_convert_bytes_back (P := Yabn.prog) w 22 9 5 ⟨g, 0, none⟩ cap l Yabn.underlying22 Yabn.underlying5 Yabn.underlying9 (fun j hj => by
      rw [Addr.add_lit, Nat.zero_add]
      exact h.cell j hj)

theorem conv_nil (w : World) (n : Nat) : (convert 22 9 (.slice none n 0)).run Yabn.prog w = .ok (.string ⟨#[]⟩) w := by
  rw [run_convert_bytes_string w 22 9 5 none n 0 Yabn.underlying22 Yabn.underlying5 Yabn.underlying9]
  unfold Conv.bytesToString
  simp [Sem.run_pure]
  rfl
theorem ttext_len (t : Int × Int) (ht : TokOK t) : (ttext t).length ≤ 20 := by
  obtain ⟨k, n⟩ := t
  obtain ⟨h1, h2, h13, h14, h0⟩ := ht
  simp only at h1 h2 h13 h14 h0
  by_cases e13 : k = 13
  · subst e13
    obtain ⟨a, b⟩ := h13 rfl
    have := itoa_len 5 n.toNat (by omega) (by omega)
    show (99 :: itoa n.toNat).length ≤ 20
    simp only [List.length_cons]
    omega
  · by_cases e14 : k = 14
    · subst e14
      obtain ⟨a, b⟩ := h14 rfl
      exact itoa_len 20 n.toNat (by omega) (by omega)
    · obtain rfl := h0 e13 e14
      have hk : k = 1 ∨ k = 2 ∨ k = 3 ∨ k = 4 ∨ k = 5 ∨ k = 6 ∨ k = 7 ∨ k = 8 ∨ k = 9 ∨ k = 10 ∨ k = 11 ∨ k = 12 ∨ k = 15 ∨ k = 16 ∨ k = 17 ∨ k = 18 ∨ k = 19 ∨ k = 20 ∨ k = 21 ∨ k = 22 ∨ k = 23 ∨ k = 24 ∨ k = 25 ∨ k = 26 := by omega
      clear h1 h2 h13 h14 h0 e13 e14
      rcases hk with rfl | rfl | rfl | rfl | rfl | rfl | rfl | rfl | rfl | rfl | rfl | rfl | rfl | rfl | rfl | rfl | rfl | rfl | rfl | rfl | rfl | rfl | rfl | rfl
      all_goals decide
theorem tail_len (ts : List (Int × Int)) (h : ∀ t ∈ ts, TokOK t) : (tail ts).length ≤ 21 * ts.length := by
  induction ts with
  | nil => simp [tail]
  | cons t ts ih =>
    have h1 := ttext_len t (h t (by simp))
    have h2 := ih (fun u hu => h u (by simp [hu]))
    have e : tail (t :: ts) = 32 :: (ttext t ++ tail ts) := by simp [tail]
    rw [e]
    simp only [List.length_cons, List.length_append]
    omega
theorem render_len (ts : List (Int × Int)) (h : ∀ t ∈ ts, TokOK t) : (render ts).length ≤ 21 * ts.length := by
  cases ts with
  | nil => simp [render]
  | cons t ts =>
    have h1 := ttext_len t (h t (by simp))
    have h2 := tail_len ts (fun u hu => h u (by simp [hu]))
    simp only [render, List.length_cons, List.length_append]
    omega
theorem render_take (ts : List (Int × Int)) (k : Nat) (hk : k < ts.length) (h0 : k ≠ 0) : render (ts.take k) ++ [32] ++ ttext (ts.getD k (0, 0)) = render (ts.take (k + 1)) := by
  have e : ts.take (k + 1) = ts.take k ++ [ts.getD k (0, 0)] := by rw [List.take_succ_eq_append_getElem hk]; simp [List.getElem?_eq_getElem hk]
  rw [e, render_snoc]
  intro hh
  have := congrArg List.length hh
  simp at this
  rcases this with h | h
  · exact h0 h
  · subst h; simp at hk
theorem render_take0 (ts : List (Int × Int)) (hk : 0 < ts.length) : [] ++ ttext (ts.getD 0 (0, 0)) = render (ts.take (0 + 1)) := by
  cases ts with
  | nil => simp at hk
  | cons t ts => simp [render, tail]

end Go.Proofs.YbyabwGreat
