/- Plain: the parse of a printed query gives the query again, or is refused. No Go here. -/
import Derived.Test.YbyaawPrnP6
import Derived.Test.YbyaawPrsQ
namespace Go.Proofs.Ybyaaw
open Go.RowKit
set_option linter.unusedVariables false

def hd (l : List (Int × Int)) : Int := match l with | [] => 0 | t :: _ => t.1
theorem Stands.hd {ts : List (Int × Int)} {p : Nat} {l : List (Int × Int)} (h : Stands ts p l) (he : p + l.length = ts.length) : pk ts p = Go.Proofs.Ybyaaw.hd l := by
  cases l with
  | nil => simp at he; unfold pk; rw [if_neg (by omega)]; rfl
  | cons t r => exact h.cons.1
theorem hd_li (li : Int) : hd (liK li) = 0 ∨ hd (liK li) = 5 := by
  unfold liK
  split
  · exact .inl rfl
  · exact .inr rfl
theorem hd_gr (gr : List Int) (li : Int) : hd (grK gr ++ liK li) = 0 ∨ hd (grK gr ++ liK li) = 5 ∨ hd (grK gr ++ liK li) = 3 := by
  unfold grK
  split
  · rcases hd_li li with h | h
    · exact .inl h
    · exact .inr (.inl h)
  · exact .inr (.inr rfl)
theorem hd_wh (nd : List Nd) (wh : Int) (gr : List Int) (li : Int) : hd (whK nd wh ++ (grK gr ++ liK li)) = 0 ∨ hd (whK nd wh ++ (grK gr ++ liK li)) = 5 ∨ hd (whK nd wh ++ (grK gr ++ liK li)) = 3 ∨ hd (whK nd wh ++ (grK gr ++ liK li)) = 2 := by
  unfold whK
  split
  · rcases hd_gr gr li with h | h | h
    · exact .inl h
    · exact .inr (.inl h)
    · exact .inr (.inr (.inl h))
  · exact .inr (.inr (.inr rfl))
theorem calm_of {t : Int} (h : t = 0 ∨ t = 5 ∨ t = 3 ∨ t = 2 ∨ t = 17) (c : Nat) : Calm c t :=
  ⟨fun _ => by omega, fun _ => by omega, fun _ => by omega, fun _ => by omega, fun _ => by omega⟩
section
variable {ts : List (Int × Int)}
theorem li_parse (its : List (Int × Int)) (nd : List Nd) (wh : Int) (gr : List Int) (li : Int) (hli : LiOK li) (p d : Nat) (h : Stands ts p (liK li)) (he : p + (liK li).length = ts.length) : q4 ts its wh gr ⟨p, nd, d⟩ = some ⟨its, nd, wh, gr, li⟩ := by
  have hh := h.hd he
  unfold liK at h hh he
  by_cases h0 : li < 0
  · rw [if_pos h0] at h hh he
    have hp : pk ts p = 0 := hh
    have hl : li = -1 := by rcases hli with h | h <;> omega
    rw [q4_no (by show pk ts p ≠ 5; rw [hp]; decide)]
    simp only [List.length_nil, Nat.add_zero] at he
    unfold q5
    rw [if_pos he, hl]
  · rw [if_neg h0] at h hh he
    obtain ⟨k1, _, h⟩ := Stands.cons h
    obtain ⟨k2, k3, _⟩ := Stands.cons h
    rw [q4_yes (s := ⟨p, nd, d⟩) k1 k2]
    have he2 : p + 1 + 1 = ts.length := he
    show (if p + 1 + 1 = ts.length then some (⟨its, nd, wh, gr, nu ts (p + 1)⟩ : Qy) else none) = _
    rw [if_pos he2, k3]
theorem gr_parse1 (its : List (Int × Int)) (nd : List Nd) (wh : Int) (d : Nat) : ∀ (gr : List Int), gr ≠ [] → ∀ (acc : List Int) (p : Nat), Stands ts p (jn [(17, 0)] gK gr) → pk ts (p + (jn [(17, 0)] gK gr).length) ≠ 17 →
    G3 ts its wh acc ⟨p, nd, d⟩ (q4 ts its wh (acc ++ gr) ⟨p + (jn [(17, 0)] gK gr).length, nd, d⟩) := by
  intro gr
  induction gr with
  | nil => intro h; exact absurd rfl h
  | cons g r ih =>
    intro _ acc p h hn
    cases r with
    | nil =>
      obtain ⟨k1, k2, _⟩ := Stands.cons (x := (13, g)) (l := []) h
      have := G3.last (ts := ts) (its := its) (wh := wh) (gr := acc) (s := ⟨p, nd, d⟩) k1 hn
      simp only [PS.adv, k2] at this
      exact this
    | cons g2 r =>
      rw [jn_cons2] at h hn ⊢
      obtain ⟨k1, k2, h⟩ := Stands.cons (x := (13, g)) (l := (17, 0) :: jn [(17, 0)] gK (g2 :: r)) h
      obtain ⟨k3, _, h⟩ := Stands.cons h
      have hl : p + (gK g ++ ([(17, 0)] ++ jn [(17, 0)] gK (g2 :: r))).length = p + 1 + 1 + (jn [(17, 0)] gK (g2 :: r)).length := by simp [gK]; omega
      rw [hl] at hn ⊢
      have := ih (by simp) (acc ++ [g]) (p + 1 + 1) h hn
      refine G3.more (s := ⟨p, nd, d⟩) k1 k3 ?_
      simp only [PS.adv]
      rw [k2]
      rw [List.append_assoc] at this
      exact this
theorem gr_parse (its : List (Int × Int)) (nd : List Nd) (wh : Int) (gr : List Int) (li : Int) (hli : LiOK li) (p d : Nat) (h : Stands ts p (grK gr ++ liK li)) (he : p + (grK gr ++ liK li).length = ts.length) : Q3 ts its wh ⟨p, nd, d⟩ (some ⟨its, nd, wh, gr, li⟩) := by
  by_cases h0 : gr = []
  · have hk : grK gr = [] := by unfold grK; rw [if_pos h0]
    rw [hk, List.nil_append] at h he
    have hp : pk ts p ≠ 3 := by rw [h.hd he]; rcases hd_li li with e | e <;> rw [e] <;> decide
    have := Q3.no (ts := ts) (its := its) (wh := wh) (s := ⟨p, nd, d⟩) hp
    rw [li_parse its nd wh [] li hli p d h he] at this
    rw [h0]
    exact this
  · have hk : grK gr = (3, 0) :: (4, 0) :: jn [(17, 0)] gK gr := by unfold grK; rw [if_neg h0]; rfl
    rw [hk] at h he
    obtain ⟨k1, _, h⟩ := Stands.cons h
    obtain ⟨k2, _, h⟩ := Stands.cons h
    have hl : p + 1 + 1 + (jn [(17, 0)] gK gr).length + (liK li).length = ts.length := by rw [← he]; simp; omega
    have h17 : pk ts (p + 1 + 1 + (jn [(17, 0)] gK gr).length) ≠ 17 := by rw [h.right.hd hl]; rcases hd_li li with e | e <;> rw [e] <;> decide
    have := gr_parse1 its nd wh d gr h0 [] (p + 1 + 1) h.left h17
    rw [List.nil_append, li_parse its nd wh gr li hli _ d h.right hl] at this
    exact Q3.yes (s := ⟨p, nd, d⟩) k1 k2 this
theorem wh_parse (its : List (Int × Int)) (nd : List Nd) (wh : Int) (gr : List Int) (li : Int) (hli : LiOK li) (b p d : Nat) (hw : (wh = -1 ∧ b = nd.length) ∨ ∃ x : Nat, wh = (x : Int) ∧ x + 1 = nd.length ∧ NB nd (x + 1) b x)
    (h : Stands ts p (whK nd wh ++ (grK gr ++ liK li))) (he : p + (whK nd wh ++ (grK gr ++ liK li)).length = ts.length) : Q2 ts its ⟨p, nd.take b, d⟩ none ∨ Q2 ts its ⟨p, nd.take b, d⟩ (some ⟨its, nd, wh, gr, li⟩) := by
  rcases hw with ⟨rfl, rfl⟩ | ⟨x, rfl, hx, hb⟩
  · have hk : whK nd (-1) = [] := rfl
    rw [hk, List.nil_append] at h he
    have hp : pk ts p ≠ 2 := by rw [h.hd he]; rcases hd_gr gr li with e | e | e <;> rw [e] <;> decide
    rw [List.take_length]
    exact .inr (Q2.no hp (gr_parse its nd (-1) gr li hli p d h he))
  · have hk : whK nd (x : Int) = (2, 0) :: tn nd (x + 1) x := by unfold whK; rw [if_neg (by omega), Int.toNat_natCast]; rfl
    rw [hk] at h he
    obtain ⟨k1, _, h⟩ := Stands.cons h
    have hl : p + 1 + (tn nd (x + 1) x).length + (grK gr ++ liK li).length = ts.length := by rw [← he]; simp; omega
    have ho : Opens ts (p + 1) := Stands.open hb h
    have hend : pk ts (p + 1 + (tn nd (x + 1) x).length) = Go.Proofs.Ybyaaw.hd (grK gr ++ liK li) := h.right.hd hl
    have H := (tn_parse nd _ _ _ hb ts (p + 1) d h.left).to 7 (by omega) (by omega) (fun _ => ho.n8) (fun _ => ho.n20) (by
      show Calm 7 (pk ts (p + 1 + (tn nd (x + 1) x).length))
      rw [hend]
      exact calm_of (by rcases hd_gr gr li with e | e | e <;> rw [e] <;> simp) 7)
    rcases H with H | H
    · exact .inl (Q2.bad (s := ⟨p, nd.take b, d⟩) k1 H)
    · refine .inr (Q2.yes (s := ⟨p, nd.take b, d⟩) k1 H ?_)
      rw [show nd.take (x + 1) = nd by rw [hx, List.take_length]]
      exact gr_parse its nd _ gr li hli _ d h.right hl
theorem it_parse {nd : List Nd} {it : Int × Int} {a b : Nat} (d : Nat) (hc : (it = (5, -1) ∧ a = b) ∨ ∃ x : Nat, 0 ≤ it.1 ∧ it.1 ≤ 4 ∧ it.2 = (x : Int) ∧ NB nd (x + 1) a x ∧ b = x + 1) (p : Nat) (h : Stands ts p (itK nd it)) (hcalm : Calm 7 (pk ts (p + (itK nd it).length))) :
    It ts ⟨p, nd.take a, d⟩ none ∨ It ts ⟨p, nd.take a, d⟩ (some (it, ⟨p + (itK nd it).length, nd.take b, d⟩)) := by
  rcases hc with ⟨rfl, rfl⟩ | ⟨x, h0, h4, hx, hb, rfl⟩
  · have hk : itK nd (5, -1) = [(12, 0), (15, 0), (18, 0), (16, 0)] := rfl
    rw [hk] at h ⊢
    obtain ⟨k1, _, h⟩ := Stands.cons h
    obtain ⟨k2, _, h⟩ := Stands.cons h
    obtain ⟨k3, _, h⟩ := Stands.cons h
    obtain ⟨k4, _, _⟩ := Stands.cons h
    exact .inr (It.stS (s := ⟨p, nd.take a, d⟩) (by show 9 ≤ pk ts p ∧ pk ts p ≤ 12; rw [k1]; decide) k2 ⟨k1, k3⟩ k4)
  · obtain ⟨g, y⟩ := it
    simp only at h0 h4 hx
    subst hx
    by_cases hg : g = 0
    · subst hg
      have hk : itK nd (0, (x : Int)) = tn nd (x + 1) x := by
        unfold itK
        simp
      rw [hk] at h hcalm ⊢
      have ho : Opens ts p := Stands.open (m := []) hb (by rw [List.append_nil]; exact h)
      have hn : ¬ (9 ≤ pk ts p ∧ pk ts p ≤ 12) := by rcases ho with e | e | e <;> rw [e] <;> decide
      rcases (tn_parse nd _ _ _ hb ts p d h).to 7 (by omega) (by omega) (fun _ => ho.n8) (fun _ => ho.n20) hcalm with H | H
      · exact .inl (It.plN hn H)
      · exact .inr (It.plS hn H)
    · have hk : itK nd (g, (x : Int)) = (g + 8, 0) :: (15, 0) :: (tn nd (x + 1) x ++ [(16, 0)]) := by
        unfold itK
        simp only
        rw [if_neg (by omega), if_neg hg, if_neg hg, Int.toNat_natCast]
        rfl
      rw [hk] at h hcalm ⊢
      obtain ⟨k1, _, h⟩ := Stands.cons h
      obtain ⟨k2, _, h⟩ := Stands.cons h
      have k3 := h.right.cons.1
      have k1' : pk ts p = g + 8 := k1
      have ho : Opens ts (p + 1 + 1) := Stands.open hb h
      have h9 : 9 ≤ pk ts p ∧ pk ts p ≤ 12 := by rw [k1']; omega
      have hns : ¬ (pk ts p = 12 ∧ pk ts (p + 1 + 1) = 18) := fun hh => by have := hh.2; rcases ho with e | e | e <;> rw [e] at this <;> revert this <;> decide
      rcases (tn_parse nd _ _ _ hb ts (p + 1 + 1) d h.left).to 7 (by omega) (by omega) (fun _ => ho.n8) (fun _ => ho.n20) (by
        show Calm 7 (pk ts (p + 1 + 1 + (tn nd (x + 1) x).length))
        rw [k3]; exact calm16 7) with H | H
      · exact .inl (It.exN (s := ⟨p, nd.take a, d⟩) h9 k2 hns H)
      · have := It.exS (s := ⟨p, nd.take a, d⟩) h9 k2 hns H k3
        simp only [PS.adv, k1', show g + 8 - 8 = g by omega] at this
        refine .inr ?_
        have e : p + ((g + 8, (0 : Int)) :: (15, 0) :: (tn nd (x + 1) x ++ [(16, 0)])).length = p + 1 + 1 + (tn nd (x + 1) x).length + 1 := by simp; omega
        rw [e]
        exact this
theorem its_parse (nd : List Nd) (d : Nat) (q : Qy) : ∀ (its : List (Int × Int)), its ≠ [] → ∀ (a b : Nat), ItsB nd a its b → ∀ (acc : List (Int × Int)) (p : Nat), Stands ts p (jn [(17, 0)] (itK nd) its) →
    pk ts (p + (jn [(17, 0)] (itK nd) its).length) ≠ 17 → Calm 7 (pk ts (p + (jn [(17, 0)] (itK nd) its).length)) →
    (Q2 ts (acc ++ its) ⟨p + (jn [(17, 0)] (itK nd) its).length, nd.take b, d⟩ none ∨ Q2 ts (acc ++ its) ⟨p + (jn [(17, 0)] (itK nd) its).length, nd.take b, d⟩ (some q)) →
    Q1 ts acc ⟨p, nd.take a, d⟩ none ∨ Q1 ts acc ⟨p, nd.take a, d⟩ (some q) := by
  intro its
  induction its with
  | nil => intro h; exact absurd rfl h
  | cons it r ih =>
    intro _ a b hi acc p h hn hcalm hq
    have hc : ∃ b', ((it = (5, -1) ∧ a = b') ∨ ∃ x : Nat, 0 ≤ it.1 ∧ it.1 ≤ 4 ∧ it.2 = (x : Int) ∧ NB nd (x + 1) a x ∧ b' = x + 1) ∧ ItsB nd b' r b := by
      rcases hi with ⟨h1, h2⟩ | ⟨x, h1, h2, h3, h4, h5⟩
      · exact ⟨a, .inl ⟨h1, rfl⟩, h2⟩
      · exact ⟨x + 1, .inr ⟨x, h1, h2, h3, h4, rfl⟩, h5⟩
    obtain ⟨b', hc, hi'⟩ := hc
    cases r with
    | nil =>
      have e : jn [(17, 0)] (itK nd) [it] = itK nd it := by simp [jn]
      rw [e] at h hn hcalm hq
      have : b' = b := hi'
      subst this
      rcases it_parse d hc p h hcalm with H | H
      · exact .inl (Q1.no H)
      · rcases hq with hq | hq
        · exact .inl (Q1.last H hn hq)
        · exact .inr (Q1.last H hn hq)
    | cons it2 r =>
      rw [jn_cons2] at h hn hcalm hq
      obtain ⟨k1, _, h2⟩ := Stands.cons (x := (17, 0)) (l := jn [(17, 0)] (itK nd) (it2 :: r)) h.right
      have hl : p + (itK nd it ++ ([(17, 0)] ++ jn [(17, 0)] (itK nd) (it2 :: r))).length = p + (itK nd it).length + 1 + (jn [(17, 0)] (itK nd) (it2 :: r)).length := by
        simp only [List.length_append, List.length_cons, List.length_nil]; omega
      rw [hl] at hn hcalm hq
      have hacc : acc ++ it :: it2 :: r = acc ++ [it] ++ it2 :: r := by simp
      rw [hacc] at hq
      have hrec := ih (by simp) b' b hi' (acc ++ [it]) (p + (itK nd it).length + 1) h2 hn hcalm hq
      rcases it_parse d hc p h.left (by rw [k1]; exact calm_of (by simp) 7) with H | H
      · exact .inl (Q1.no H)
      · rcases hrec with hr | hr
        · exact .inl (Q1.more H k1 hr)
        · exact .inr (Q1.more H k1 hr)
end
theorem q_parse {q : Qy} (h : QOK q) : Q0 (qK q) none ∨ Q0 (qK q) (some q) := by
  obtain ⟨b, hi, hw⟩ := h.wh
  have hst : Stands (qK q) 0 (qK q) := by
    have := Stands.of [] (qK q) []
    simpa using this
  have hst2 : Stands (qK q) 0 ([(1, 0)] ++ (jn [(17, 0)] (itK q.nd) q.its ++ (whK q.nd q.wh ++ (grK q.gr ++ liK q.li)))) := hst
  obtain ⟨k1, _, h1⟩ := Stands.cons (x := (1, 0)) (l := jn [(17, 0)] (itK q.nd) q.its ++ (whK q.nd q.wh ++ (grK q.gr ++ liK q.li))) hst2
  have hl : 0 + 1 + (jn [(17, 0)] (itK q.nd) q.its).length + (whK q.nd q.wh ++ (grK q.gr ++ liK q.li)).length = (qK q).length := by
    unfold qK
    simp only [List.length_append, List.length_cons, List.length_nil]
    omega
  have hend := h1.right.hd hl
  have hd4 := hd_wh q.nd q.wh q.gr q.li
  have hW := wh_parse q.its q.nd q.wh q.gr q.li h.li b _ 0 hw h1.right hl
  have := its_parse q.nd 0 q q.its h.ne 0 b hi [] (0 + 1) h1.left (by rw [hend]; rcases hd4 with e | e | e | e <;> rw [e] <;> decide) (by rw [hend]; exact calm_of (by rcases hd4 with e | e | e | e <;> rw [e] <;> simp) 7) (by rw [List.nil_append]; exact hW)
  rw [List.take_zero] at this
  rcases this with t | t
  · exact .inl (Q0.yes k1 t)
  · exact .inr (Q0.yes k1 t)
/-- What is printed and parsed again is the query itself. -/
theorem print_law {x : ByteArray} {q q' : Qy} (h : Pq x (some q)) (h' : Pq (tx (qT q)) (some q')) : q' = q := by
  have hok : QOK q := by
    rcases h with ⟨_, h⟩ | ⟨ts, ht, h⟩
    · cases h
    · exact h.ok (tokens_ok ht)
  rcases h' with ⟨_, h'⟩ | ⟨ts, ht, h'⟩
  · cases h'
  · rcases q_tokens hok with e | e
    · rw [e] at ht; cases ht
    · rw [e] at ht
      injection ht with ht
      subst ht
      rcases q_parse hok with hq | hq
      · cases hq.det h'
      · have := hq.det h'
        injection this with this
        exact this.symm
theorem Pq.ok {x : ByteArray} {q : Qy} (h : Pq x (some q)) : QOK q := by
  rcases h with ⟨_, h⟩ | ⟨ts, ht, h⟩
  · cases h
  · exact h.ok (tokens_ok ht)
end Go.Proofs.Ybyaaw
