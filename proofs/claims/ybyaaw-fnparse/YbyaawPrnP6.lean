/- Plain: a query printed: its text and its tokens. No Go here. -/
import Derived.Test.YbyaawPrnP5
namespace Go.Proofs.Ybyaaw
open Go.RowKit
set_option linter.unusedVariables false

def jn {α β : Type} (sep : List β) (f : α → List β) : List α → List β
  | [] => []
  | x :: r => f x ++ r.flatMap (fun y => sep ++ f y)
theorem jn_cons2 {α β : Type} (sep : List β) (f : α → List β) (x y : α) (r : List α) : jn sep f (x :: y :: r) = f x ++ (sep ++ jn sep f (y :: r)) := by simp [jn]
theorem jn_snoc {α β : Type} (sep : List β) (f : α → List β) (l : List α) (x : α) (h : l ≠ []) : jn sep f (l ++ [x]) = jn sep f l ++ sep ++ f x := by
  cases l with
  | nil => exact absurd rfl h
  | cons y r => simp [jn, List.flatMap_append]
def agT (g : Int) : List UInt8 := if g = 1 then [83, 85, 77] ++ [40] else if g = 2 then [77, 73, 78] ++ [40] else if g = 3 then [77, 65, 88] ++ [40] else if g = 4 then [67, 79, 85, 78, 84] ++ [40] else []
def itT (nd : List Nd) (it : Int × Int) : List UInt8 :=
  if it.1 = 5 then ([67, 79, 85, 78, 84] ++ [40]) ++ ([42] ++ [41]) else agT it.1 ++ (pn nd (it.2.toNat + 1) it.2.toNat ++ if it.1 = 0 then [] else [41])
def itK (nd : List Nd) (it : Int × Int) : List (Int × Int) :=
  if it.1 = 5 then [(12, 0), (15, 0)] ++ ([(18, 0)] ++ [(16, 0)]) else (if it.1 = 0 then [] else [(it.1 + 8, 0), (15, 0)]) ++ (tn nd (it.2.toNat + 1) it.2.toNat ++ if it.1 = 0 then [] else [(16, 0)])
def whT (nd : List Nd) (wh : Int) : List UInt8 := if wh = -1 then [] else [32] ++ (([87, 72, 69, 82, 69] ++ [32]) ++ pn nd (wh.toNat + 1) wh.toNat)
def whK (nd : List Nd) (wh : Int) : List (Int × Int) := if wh = -1 then [] else [] ++ ([(2, 0)] ++ tn nd (wh.toNat + 1) wh.toNat)
def gT (g : Int) : List UInt8 := 99 :: itoa g.toNat
def gK (g : Int) : List (Int × Int) := [(13, g)]
def grT (gr : List Int) : List UInt8 := if gr = [] then [] else [32] ++ (([71, 82, 79, 85, 80] ++ [32]) ++ (([66, 89] ++ [32]) ++ jn [44, 32] gT gr))
def grK (gr : List Int) : List (Int × Int) := if gr = [] then [] else [] ++ ([(3, 0)] ++ ([(4, 0)] ++ jn [(17, 0)] gK gr))
def liT (li : Int) : List UInt8 := if li < 0 then [] else [32] ++ (([76, 73, 77, 73, 84] ++ [32]) ++ itoa li.toNat)
def liK (li : Int) : List (Int × Int) := if li < 0 then [] else [] ++ ([(5, 0)] ++ [(14, li)])
def qT (q : Qy) : List UInt8 := sel ++ (jn [44, 32] (itT q.nd) q.its ++ (whT q.nd q.wh ++ (grT q.gr ++ liT q.li)))
def qK (q : Qy) : List (Int × Int) := [(1, 0)] ++ (jn [(17, 0)] (itK q.nd) q.its ++ (whK q.nd q.wh ++ (grK q.gr ++ liK q.li)))

theorem Tl.cs : Tl [44, 32] [(17, 0)] := Tl.comma.app Tl.sp
theorem flat_run {α : Type} (f : α → List UInt8) (g : α → List (Int × Int)) (r : List α) (h : ∀ y ∈ r, Tk (f y) (g y)) : Tk (r.flatMap (fun y => [44, 32] ++ f y)) (r.flatMap (fun y => [(17, 0)] ++ g y)) ∧ Brk (r.flatMap (fun y => [44, 32] ++ f y)) := by
  induction r with
  | nil => exact ⟨Tk.nil, Brk.nil⟩
  | cons y r ih =>
    have hr := ih (fun z hz => h z (by simp [hz]))
    rw [List.flatMap_cons, List.flatMap_cons]
    exact ⟨(Tl.cs.then (h y (by simp))).then hr.2 hr.1, Brk.cons 44 _ (by decide)⟩
theorem jn_run {α : Type} (f : α → List UInt8) (g : α → List (Int × Int)) (l : List α) (h : ∀ y ∈ l, Tk (f y) (g y)) : Tk (jn [44, 32] f l) (jn [(17, 0)] g l) := by
  cases l with
  | nil => exact Tk.nil
  | cons y r =>
    have hr := flat_run f g r (fun z hz => h z (by simp [hz]))
    exact (h y (by simp)).then hr.2 hr.1
theorem it_run {nd : List Nd} {it : Int × Int} {a : Nat} (h : it = (5, -1) ∨ ∃ x : Nat, 0 ≤ it.1 ∧ it.1 ≤ 4 ∧ it.2 = (x : Int) ∧ NB nd (x + 1) a x) : Tk (itT nd it) (itK nd it) := by
  have hC := Tl.kwp 67 [79, 85, 78, 84] 12 (by decide) (by decide) (by simp only [kwOf, tx, ByteArray.toList_mk]; rfl) (by decide)
  rcases h with rfl | ⟨x, h0, h4, hx, hb⟩
  · exact hC.then (Tl.star.app Tl.rp).tk
  · obtain ⟨g, y⟩ := it
    simp only at h0 h4 hx
    subst hx
    have hp := pn_run nd _ _ _ hb
    have e1 : itT nd (g, (x : Int)) = agT g ++ (pn nd (x + 1) x ++ if g = 0 then [] else [41]) := by
      unfold itT
      simp only
      rw [if_neg (by omega), Int.toNat_natCast]
    have e2 : itK nd (g, (x : Int)) = (if g = 0 then [] else [(g + 8, 0), (15, 0)]) ++ (tn nd (x + 1) x ++ if g = 0 then [] else [(16, 0)]) := by
      unfold itK
      simp only
      rw [if_neg (by omega), Int.toNat_natCast]
    rw [e1, e2]
    have hg : g = 0 ∨ g = 1 ∨ g = 2 ∨ g = 3 ∨ g = 4 := by omega
    have hpr := hp.then Brk.rp1 Tl.rp.tk
    rcases hg with rfl | rfl | rfl | rfl | rfl
    · simpa [agT] using hp
    · exact (Tl.kwp 83 [85, 77] 9 (by decide) (by decide) (by simp only [kwOf, tx, ByteArray.toList_mk]; rfl) (by decide)).then hpr
    · exact (Tl.kwp 77 [73, 78] 10 (by decide) (by decide) (by simp only [kwOf, tx, ByteArray.toList_mk]; rfl) (by decide)).then hpr
    · exact (Tl.kwp 77 [65, 88] 11 (by decide) (by decide) (by simp only [kwOf, tx, ByteArray.toList_mk]; rfl) (by decide)).then hpr
    · exact hC.then hpr
theorem ItsB.each {nd : List Nd} : ∀ (its : List (Int × Int)) (a b : Nat), ItsB nd a its b → ∀ it ∈ its, ∃ a', it = (5, -1) ∨ ∃ x : Nat, 0 ≤ it.1 ∧ it.1 ≤ 4 ∧ it.2 = (x : Int) ∧ NB nd (x + 1) a' x := by
  intro its
  induction its with
  | nil => intro a b _ it hit; cases hit
  | cons i r ih =>
    intro a b h it hit
    rcases h with ⟨h1, h2⟩ | ⟨x, h1, h2, h3, h4, h5⟩
    · rcases List.mem_cons.1 hit with rfl | hit
      · exact ⟨a, .inl h1⟩
      · exact ih _ _ h2 it hit
    · rcases List.mem_cons.1 hit with rfl | hit
      · exact ⟨a, .inr ⟨x, h1, h2, h3, h4⟩⟩
      · exact ih _ _ h5 it hit
theorem wh_run {nd : List Nd} {its : List (Int × Int)} {wh : Int} (h : WhOK nd its wh) : Tk (whT nd wh) (whK nd wh) ∧ Brk (whT nd wh) := by
  obtain ⟨b, _, ⟨rfl, _⟩ | ⟨x, rfl, _, hb⟩⟩ := h
  · exact ⟨Tk.nil, Brk.nil⟩
  · have e1 : whT nd (x : Int) = [32] ++ (([87, 72, 69, 82, 69] ++ [32]) ++ pn nd (x + 1) x) := by unfold whT; rw [if_neg (by omega), Int.toNat_natCast]
    have e2 : whK nd (x : Int) = [] ++ ([(2, 0)] ++ tn nd (x + 1) x) := by unfold whK; rw [if_neg (by omega), Int.toNat_natCast]
    rw [e1, e2]
    exact ⟨Tl.sp.then ((Tl.tok (tokKw 2 (by decide) (by decide) (by decide) (by decide))).then (pn_run nd _ _ _ hb)), Brk.sp _⟩
theorem gr_run {gr : List Int} (h : GrOK gr) : Tk (grT gr) (grK gr) ∧ Brk (grT gr) := by
  unfold grT grK
  by_cases h0 : gr = []
  · rw [if_pos h0, if_pos h0]; exact ⟨Tk.nil, Brk.nil⟩
  · rw [if_neg h0, if_neg h0]
    refine ⟨Tl.sp.then ((Tl.tok (tokKw 3 (by decide) (by decide) (by decide) (by decide))).then ((Tl.tok (tokKw 4 (by decide) (by decide) (by decide) (by decide))).then (jn_run gT gK gr (fun g hg => ?_)))), Brk.sp _⟩
    have := h g hg
    exact Tk.leaf (t := (13, g)) ⟨⟨by simp, by simp, fun _ => this, fun h => by simp at h, fun h => absurd rfl h⟩, .inl rfl⟩
theorem li_run {li : Int} (h : LiOK li) : Tk (liT li) (liK li) ∧ Brk (liT li) := by
  unfold liT liK
  by_cases h0 : li < 0
  · rw [if_pos h0, if_pos h0]; exact ⟨Tk.nil, Brk.nil⟩
  · rw [if_neg h0, if_neg h0]
    refine ⟨Tl.sp.then ((Tl.tok (tokKw 5 (by decide) (by decide) (by decide) (by decide))).then ?_), Brk.sp _⟩
    have : 0 ≤ li ∧ li ≤ 9223372036854775807 := by rcases h with h | h <;> omega
    exact Tk.leaf (t := (14, li)) ⟨⟨by simp, by simp, fun h => by simp at h, fun _ => this, fun _ h => absurd rfl h⟩, .inr rfl⟩
theorem q_run {q : Qy} (h : QOK q) : Tk (qT q) (qK q) := by
  obtain ⟨b, hi, _⟩ := h.wh
  have hw := wh_run h.wh
  have hg := gr_run h.gr
  have hl := li_run h.li
  have hgl := hg.1.then hl.2 hl.1
  have hwl := hw.1.then (hg.2.append hl.2) hgl
  have hj : Tk (jn [44, 32] (itT q.nd) q.its) (jn [(17, 0)] (itK q.nd) q.its) := jn_run _ _ _ (fun it hit => by
    obtain ⟨a', hh⟩ := ItsB.each _ _ _ hi it hit
    exact it_run hh)
  exact (Tl.tok (tokKw 1 (by decide) (by decide) (by decide) (by decide))).then (hj.then (hw.2.append (hg.2.append hl.2)) hwl)
theorem q_tokens {q : Qy} (h : QOK q) : tokens (tx (qT q)) = none ∨ tokens (tx (qT q)) = some (qK q) := by
  have h1 := q_run h [] [] Brk.nil
  simp only [List.nil_append, List.append_nil, List.length_nil, Nat.zero_add] at h1
  have h2 := tokens_split (qT q) [] (qK q) (by rw [List.append_nil]; exact h1)
  rw [List.append_nil] at h2
  rw [h2]
  split
  · exact .inl rfl
  · right
    show some (qK q ++ []) = _
    rw [List.append_nil]
end Go.Proofs.Ybyaaw
