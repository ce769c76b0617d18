/- Plain: the parse of a printed expression gives its nodes again. No Go here. -/
import Derived.Test.YbyaawPrnP3
namespace Go.Proofs.Ybyaaw
open Go.RowKit
set_option linter.unusedVariables false

section
variable {ts : List (Int × Int)} {s s1 s2 : PS} {l r : Int}
def Opens (ts : List (Int × Int)) (p : Nat) : Prop := pk ts p = 13 ∨ pk ts p = 14 ∨ pk ts p = 15
theorem Opens.n8 {p : Nat} (h : Opens ts p) : pk ts p ≠ 8 := by rcases h with h | h | h <;> rw [h] <;> decide
theorem Opens.n20 {p : Nat} (h : Opens ts p) : pk ts p ≠ 20 := by rcases h with h | h | h <;> rw [h] <;> decide
theorem op16 (c : Nat) : opOf c 16 = none := by unfold opOf; simp
theorem bin_ch {c : Nat} {o : Int} (hc : isCh c) (hop : opOf c (pk ts s1.pos) = some o) (hcalm : Calm (c - 1) (pk ts s1.pos)) (HL : Pm ts 0 s (l, s1)) (HR : Pm ts 0 s1.adv (r, s2)) (h1 : Opens ts s.pos) (h2 : Opens ts s1.adv.pos) (h3 : pk ts s2.pos = 16) :
    Pm ts c s ((s2.nd.length : Int), s2.push ⟨o, 0, l, r⟩) := by
  have hc7 : c - 1 ≤ 7 := by unfold isCh at hc; omega
  rcases HL.to (c - 1) (by omega) hc7 (fun _ => h1.n8) (fun _ => h1.n20) hcalm with H | H
  · exact .inl (Pr.chN hc H)
  · rcases HR.to (c - 1) (by omega) hc7 (fun _ => h2.n8) (fun _ => h2.n20) (by show Calm _ (pk ts s2.pos); rw [h3]; exact calm16 _) with K | K
    · exact .inl (Pr.chS hc H (Pr.lpN hc hop K))
    · refine .inr (Pr.chS hc H (Pr.lpS hc hop K (Pr.lpE hc ?_)))
      show opOf c (pk ts s2.pos) = none
      rw [h3]
      exact op16 c
theorem bin_cm (hop : 21 ≤ pk ts s1.pos ∧ pk ts s1.pos ≤ 26) (HL : Pm ts 0 s (l, s1)) (HR : Pm ts 0 s1.adv (r, s2)) (h1 : Opens ts s.pos) (h2 : Opens ts s1.adv.pos) (h3 : pk ts s2.pos = 16) :
    Pm ts 4 s ((s2.nd.length : Int), s2.push ⟨pk ts s1.pos - 14, 0, l, r⟩) := by
  rcases HL.to 3 (by omega) (by omega) (fun _ => h1.n8) (fun _ => h1.n20) ⟨fun _ => by show pk ts s1.pos ≠ 18; omega, fun _ => by show pk ts s1.pos ≠ 19 ∧ pk ts s1.pos ≠ 20; omega, fun h => by omega, fun h => by omega, fun h => by omega⟩ with H | H
  · exact .inl (Pr.cmN H)
  · rcases HR.to 3 (by omega) (by omega) (fun _ => h2.n8) (fun _ => h2.n20) (by show Calm _ (pk ts s2.pos); rw [h3]; exact calm16 _) with K | K
    · exact .inl (Pr.cmR H hop K)
    · exact .inr (Pr.cmS H hop K)
/-- An operation of two sides, inside its parentheses. -/
theorem bin_all {o : Int} (h4 : 4 ≤ o) (h14 : o ≤ 14) (hop : pk ts s1.pos = (opTok o).1) (HL : Pm ts 0 s (l, s1)) (HR : Pm ts 0 s1.adv (r, s2)) (h1 : Opens ts s.pos) (h2 : Opens ts s1.adv.pos) (h3 : pk ts s2.pos = 16) :
    Pm ts 7 s ((s2.nd.length : Int), s2.push ⟨o, 0, l, r⟩) := by
  have hend : ∀ c, Calm c (pk ts (s2.push ⟨o, 0, l, r⟩).pos) := fun c => by show Calm c (pk ts s2.pos); rw [h3]; exact calm16 c
  have hk : o = 4 ∨ o = 5 ∨ o = 6 ∨ (7 ≤ o ∧ o ≤ 12) ∨ o = 13 ∨ o = 14 := by omega
  rcases hk with rfl | rfl | rfl | ⟨h7, h12⟩ | rfl | rfl
  · have hp : pk ts s1.pos = 19 := hop
    exact (bin_ch isCh3 (by rw [hp]; rfl) (by rw [hp]; exact ⟨fun _ => by decide, fun h => by omega, fun h => by omega, fun h => by omega, fun h => by omega⟩) HL HR h1 h2 h3).to 7 (by omega) (by omega) (fun _ => h1.n8) (fun h => by omega) (hend 7)
  · have hp : pk ts s1.pos = 20 := hop
    exact (bin_ch isCh3 (by rw [hp]; rfl) (by rw [hp]; exact ⟨fun _ => by decide, fun h => by omega, fun h => by omega, fun h => by omega, fun h => by omega⟩) HL HR h1 h2 h3).to 7 (by omega) (by omega) (fun _ => h1.n8) (fun h => by omega) (hend 7)
  · have hp : pk ts s1.pos = 18 := hop
    exact (bin_ch isCh2 (by rw [hp]; rfl) (by rw [hp]; exact ⟨fun h => by omega, fun h => by omega, fun h => by omega, fun h => by omega, fun h => by omega⟩) HL HR h1 h2 h3).to 7 (by omega) (by omega) (fun _ => h1.n8) (fun h => by omega) (hend 7)
  · have hp : pk ts s1.pos = o + 14 := by
      rw [hop]
      unfold opTok
      simp only
      rw [if_neg (by omega), if_neg (by omega), if_neg (by omega), if_neg (by omega), if_neg (by omega)]
    have := bin_cm (by omega) HL HR h1 h2 h3
    rw [hp, show o + 14 - 14 = o by omega] at this
    exact this.to 7 (by omega) (by omega) (fun _ => h1.n8) (fun h => by omega) (hend 7)
  · have hp : pk ts s1.pos = 6 := hop
    exact (bin_ch isCh6 (by rw [hp]; rfl) (by rw [hp]; exact ⟨fun _ => by decide, fun _ => by decide, fun _ => by decide, fun h => by omega, fun h => by omega⟩) HL HR h1 h2 h3).to 7 (by omega) (by omega) (fun h => by omega) (fun h => by omega) (hend 7)
  · have hp : pk ts s1.pos = 7 := hop
    exact bin_ch isCh7 (by rw [hp]; rfl) (by rw [hp]; exact ⟨fun _ => by decide, fun _ => by decide, fun _ => by decide, fun _ => by decide, fun h => by omega⟩) HL HR h1 h2 h3
/-- A sign ahead, inside its parentheses. -/
theorem un_all {u : Nat} (hu : u = 1 ∨ u = 5) (hop : pk ts s.pos = unKind u) (HL : Pm ts 0 s.adv.deep (l, s1)) (h1 : Opens ts s.adv.pos) (h3 : pk ts s1.pos = 16) :
    Pm ts 7 s ((s1.nd.length : Int), s1.up.push ⟨unOp u, 0, l, -1⟩) := by
  have hend : ∀ c, Calm c (pk ts (s1.up.push ⟨unOp u, 0, l, -1⟩).pos) := fun c => by show Calm c (pk ts s1.pos); rw [h3]; exact calm16 c
  have hm : Pm ts u s ((s1.nd.length : Int), s1.up.push ⟨unOp u, 0, l, -1⟩) := by
    by_cases hd : 4096 ≤ s.dep
    · exact .inl (Pr.prD hu hop hd)
    · rcases HL.to u (by omega) (by omega) (fun _ => h1.n8) (fun _ => h1.n20) (by show Calm u (pk ts s1.pos); rw [h3]; exact calm16 u) with H | H
      · exact .inl (Pr.prN hu hop (by omega) H)
      · exact .inr (Pr.prS hu hop (by omega) H)
  exact hm.to 7 (by omega) (by omega) (fun h => by rw [hop]; rcases hu with rfl | rfl <;> first | decide | omega) (fun h => by omega) (hend 7)
/-- Parentheses around it. -/
theorem paren {q : Int × PS} (h0 : pk ts s.pos = 15) (H : Pm ts 7 s.adv.deep q) (h1 : pk ts q.2.pos = 16) : Pm ts 0 s (q.1, q.2.adv.up) := by
  by_cases hd : 4096 ≤ s.dep
  · exact .inl (Pr.pmD h0 hd)
  · rcases H with H | H
    · exact .inl (Pr.pmN h0 (by omega) H)
    · exact .inr (Pr.pmS h0 (by omega) H h1)
end
theorem tn_parse (nd : List Nd) : ∀ (f a x : Nat), NB nd f a x → ∀ (ts : List (Int × Int)) (p d : Nat), Stands ts p (tn nd f x) → Pm ts 0 ⟨p, nd.take a, d⟩ ((x : Int), ⟨p + (tn nd f x).length, nd.take (x + 1), d⟩) := by
  intro f
  induction f with
  | zero => intro a x h; exact h.elim
  | succ f ih =>
    intro a x h ts p d hst
    have hb := NB.bound _ _ _ h
    have htk := take_succ_nd nd x hb.2
    obtain ⟨h0, h | h | h | h⟩ := h
    · obtain ⟨v, h1, _, _, rfl⟩ := h
      rw [tn_lit h1] at hst ⊢
      obtain ⟨k1, k2, _⟩ := hst.cons
      have := Pr.pmV (ts := ts) (s := ⟨p, nd.take a, d⟩) k1
      rw [htk, h1]
      simp only [PS.adv, PS.push, k2, take_len nd a (by omega)] at this
      exact .inr this
    · obtain ⟨v, h1, _, _, rfl⟩ := h
      rw [tn_col h1] at hst ⊢
      obtain ⟨k1, k2, _⟩ := hst.cons
      have := Pr.pmC (ts := ts) (s := ⟨p, nd.take a, d⟩) k1
      rw [htk, h1]
      simp only [PS.adv, PS.push, k2, take_len nd a (by omega)] at this
      exact .inr this
    · obtain ⟨o, y, h1, ho, rfl, h2⟩ := h
      obtain ⟨u, hu, hou, htn⟩ : ∃ u : Nat, (u = 1 ∨ u = 5) ∧ o = unOp u ∧ tn nd (f + 1) (y + 1) = (15, 0) :: (unKind u, 0) :: (tn nd f y ++ [(16, 0)]) := by
        rcases ho with rfl | rfl
        · exact ⟨1, .inl rfl, rfl, by rw [tn_neg h1]; rfl⟩
        · exact ⟨5, .inr rfl, rfl, by rw [tn_not h1]; rfl⟩
      rw [htn] at hst ⊢
      obtain ⟨k1, _, hst⟩ := hst.cons
      obtain ⟨k2, _, hst⟩ := hst.cons
      have hop := Stands.open h2 hst
      have k3 := hst.right.cons.1
      have H := ih _ _ h2 ts (p + 1 + 1) (d + 1 + 1) hst.left
      have U := un_all (s := ⟨p + 1, nd.take a, d + 1⟩) hu k2 H hop k3
      have P := paren (s := ⟨p, nd.take a, d⟩) k1 U k3
      simp only [PS.adv, PS.push, PS.up, take_len nd (y + 1) (by omega), Nat.add_sub_cancel] at P
      rw [htk, h1, hou]
      simp only [List.length_cons, List.length_append, List.length_nil]
      rw [show p + ((tn nd f y).length + (0 + 1) + 1 + 1) = p + 1 + 1 + (tn nd f y).length + 1 by omega]
      exact P
    · obtain ⟨o, y, z, h1, h4, h14, rfl, h2, h3⟩ := h
      have hz := NB.bound _ _ _ h3
      have htn : tn nd (f + 1) (z + 1) = (15, 0) :: (tn nd f y ++ (opTok o :: (tn nd f z ++ [(16, 0)]))) := by rw [tn_bin h1 h4 h14]; rfl
      rw [htn] at hst ⊢
      obtain ⟨k1, _, hst⟩ := hst.cons
      have hop1 := Stands.open h2 hst
      obtain ⟨k2, _, hst2⟩ := hst.right.cons
      have hop2 := Stands.open h3 hst2
      have k3 := hst2.right.cons.1
      have H := ih _ _ h2 ts (p + 1) (d + 1) hst.left
      have K := ih _ _ h3 ts (p + 1 + (tn nd f y).length + 1) (d + 1) hst2.left
      have B := bin_all (s := ⟨p + 1, nd.take a, d + 1⟩) h4 h14 k2 H K hop1 hop2 k3
      have P := paren (s := ⟨p, nd.take a, d⟩) k1 B k3
      simp only [PS.adv, PS.push, PS.up, take_len nd (z + 1) (by omega), Nat.add_sub_cancel] at P
      rw [htk, h1]
      simp only [List.length_cons, List.length_append, List.length_nil]
      rw [show p + ((tn nd f y).length + ((tn nd f z).length + (0 + 1) + 1) + 1) = p + 1 + (tn nd f y).length + 1 + (tn nd f z).length + 1 by omega]
      exact P
end Go.Proofs.Ybyaaw
