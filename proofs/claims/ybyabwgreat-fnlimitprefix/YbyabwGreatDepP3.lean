/- Plain: the tokens of DepthText's texts, whole. No Go here. -/
import Derived.Test.YbyabwGreatDepP2
namespace Go.Proofs.YbyabwGreat
open Go.RowKit
set_option linter.unusedVariables false

theorem Brk.nil : Brk [] := fun b r h => by cases h
theorem Brk.cons (b : UInt8) (r : List UInt8) (h : wc (b.toNat : Int) = false) : Brk (b :: r) := fun c q e => by cases e; exact h
theorem Brk.append {l m : List UInt8} (h : Brk l) (h' : Brk m) : Brk (l ++ m) := by
  cases l with
  | nil => exact h'
  | cons b r => exact Brk.cons b _ (h b r rfl)
theorem Brk.tail (ts : List (Int × Int)) : Brk (Go.Proofs.YbyabwGreat.tail ts) := by
  cases ts with
  | nil => exact Brk.nil
  | cons t ts =>
    have e : Go.Proofs.YbyabwGreat.tail (t :: ts) = 32 :: (ttext t ++ Go.Proofs.YbyabwGreat.tail ts) := by simp [Go.Proofs.YbyabwGreat.tail]
    rw [e]
    exact Brk.cons 32 _ (by decide)
theorem Brk.rps (k : Nat) : Brk (List.replicate k 41) := by
  cases k with
  | zero => exact Brk.nil
  | succ k => rw [List.replicate_succ]; exact Brk.cons 41 _ (by decide)
theorem SpJ.brk {m : List UInt8} (h : SpJ m) : Brk m := by
  rcases h with (rfl | ⟨r, rfl⟩ | ⟨r, rfl⟩ | ⟨r, rfl⟩) | ⟨k, _, _, rfl⟩
  · exact Brk.nil
  · exact Brk.cons 32 _ (by decide)
  · exact Brk.cons 32 _ (by decide)
  · exact Brk.cons 32 _ (by decide)
  · exact Brk.cons 32 _ (by decide)

theorem tail_run (ts : List (Int × Int)) : (∀ t ∈ ts, IsLeaf t ∨ IsOp3 t) → ∀ (pre rest : List UInt8), Brk rest → Rn (tx (pre ++ tail ts ++ rest)) pre.length (pre.length + (tail ts).length) ts := by
  induction ts with
  | nil => intro _ pre rest _; simp [tail]; exact Rn.refl _ _
  | cons t ts ih =>
    intro hts pre rest hr
    have e : tail (t :: ts) = 32 :: (ttext t ++ tail ts) := by simp [tail]
    have e1 : pre ++ tail (t :: ts) ++ rest = pre ++ 32 :: (ttext t ++ (tail ts ++ rest)) := by rw [e]; simp
    have e2 : pre ++ tail (t :: ts) ++ rest = (pre ++ [32]) ++ ttext t ++ (tail ts ++ rest) := by rw [e]; simp
    have e3 : pre ++ tail (t :: ts) ++ rest = (pre ++ [32] ++ ttext t) ++ tail ts ++ rest := by rw [e]; simp
    have r1 := Rn.space pre (ttext t ++ (tail ts ++ rest))
    rw [← e1] at r1
    have r2 : Rn (tx (pre ++ tail (t :: ts) ++ rest)) (pre.length + 1) (pre.length + 1 + (ttext t).length) [t] := by
      rw [e2]
      rcases hts t (by simp) with h | h
      · have := Rn.leaf (pre ++ [32]) (tail ts ++ rest) ((Brk.tail ts).append hr) h
        simpa using this
      · have := Rn.op3 (pre ++ [32]) (tail ts ++ rest) h
        simpa using this
    have r3 := ih (fun u hu => hts u (by simp [hu])) (pre ++ [32] ++ ttext t) rest hr
    rw [← e3] at r3
    have el : (pre ++ [32] ++ ttext t).length = pre.length + 1 + (ttext t).length := by simp; omega
    rw [el] at r3
    have := (r1.trans r2).trans r3
    have e4 : pre.length + 1 + (ttext t).length + (tail ts).length = pre.length + (tail (t :: ts)).length := by rw [e]; simp; omega
    rw [e4] at this
    exact this
theorem chain_run {t0 : Int × Int} {ps : List ((Int × Int) × (Int × Int))} (h : FlatC t0 ps) (pre rest : List UInt8) (hr : Brk rest) :
    Rn (tx (pre ++ render (chainT t0 ps) ++ rest)) pre.length (pre.length + (render (chainT t0 ps)).length) (chainT t0 ps) := by
  have e : render (chainT t0 ps) = ttext t0 ++ tail (ps.flatMap fun p => [p.1, p.2]) := rfl
  have hts : ∀ t ∈ ps.flatMap (fun p => [p.1, p.2]), IsLeaf t ∨ IsOp3 t := by
    intro t ht
    obtain ⟨p, hp, htp⟩ := List.mem_flatMap.1 ht
    have := h.2 p hp
    simp at htp
    rcases htp with rfl | rfl
    · exact .inr this.1
    · exact .inl this.2
  generalize ps.flatMap (fun p => [p.1, p.2]) = qs at *
  have e0 : chainT t0 ps = [t0] ++ (ps.flatMap fun p => [p.1, p.2]) := rfl
  have r1 := Rn.leaf pre (tail (ps.flatMap fun p => [p.1, p.2]) ++ rest) ((Brk.tail _).append hr) h.1
  have hts' : ∀ t ∈ ps.flatMap (fun p => [p.1, p.2]), IsLeaf t ∨ IsOp3 t := by
    intro t ht
    obtain ⟨p, hp, htp⟩ := List.mem_flatMap.1 ht
    have := h.2 p hp
    simp at htp
    rcases htp with rfl | rfl
    · exact .inr this.1
    · exact .inl this.2
  have r2 := tail_run (ps.flatMap fun p => [p.1, p.2]) hts' (pre ++ ttext t0) rest hr
  have e1 : pre ++ render (chainT t0 ps) ++ rest = pre ++ ttext t0 ++ (tail (ps.flatMap fun p => [p.1, p.2]) ++ rest) := by
    show pre ++ (ttext t0 ++ tail (ps.flatMap fun p => [p.1, p.2])) ++ rest = _; simp
  have e2 : pre ++ render (chainT t0 ps) ++ rest = pre ++ ttext t0 ++ tail (ps.flatMap fun p => [p.1, p.2]) ++ rest := by
    show pre ++ (ttext t0 ++ tail (ps.flatMap fun p => [p.1, p.2])) ++ rest = _; simp
  rw [← e1] at r1
  rw [← e2, List.length_append] at r2
  have := r1.trans r2
  have e3 : pre.length + (ttext t0).length + (tail (ps.flatMap fun p => [p.1, p.2])).length = pre.length + (render (chainT t0 ps)).length := by
    show _ = pre.length + (ttext t0 ++ tail (ps.flatMap fun p => [p.1, p.2])).length
    rw [List.length_append]; omega
  rw [e3] at this
  exact this
theorem rp_run (k : Nat) : ∀ (pre rest : List UInt8), Rn (tx (pre ++ List.replicate k 41 ++ rest)) pre.length (pre.length + k) (List.replicate k (16, 0)) := by
  induction k with
  | zero => intro pre rest; exact Rn.refl _ _
  | succ k ih =>
    intro pre rest
    have e1 : pre ++ List.replicate (k + 1) 41 ++ rest = pre ++ 41 :: (List.replicate k 41 ++ rest) := by rw [List.replicate_succ]; simp
    have e2 : pre ++ List.replicate (k + 1) 41 ++ rest = (pre ++ [41]) ++ List.replicate k 41 ++ rest := by rw [List.replicate_succ]; simp
    have r1 := Rn.rp pre (List.replicate k 41 ++ rest)
    rw [← e1] at r1
    have r2 := ih (pre ++ [41]) rest
    rw [← e2, List.length_append, List.length_singleton] at r2
    have := r1.trans r2
    rw [show pre.length + 1 + k = pre.length + (k + 1) by omega] at this
    exact this
def wk (n : Nat) : Int × Int := if n % 3 = 0 then (15, 0) else if n % 3 = 1 then (20, 0) else (8, 0)
def wtok : Nat → List (Int × Int)
  | 0 => []
  | n + 1 => wk n :: wtok n
theorem front_run (n : Nat) : ∀ (pre rest : List UInt8), Rn (tx (pre ++ (wpre n).reverse ++ rest)) pre.length (pre.length + (wpre n).length) (wtok n) := by
  induction n with
  | zero => intro pre rest; exact Rn.refl _ _
  | succ n ih =>
    intro pre rest
    have hm : n % 3 = 0 ∨ n % 3 = 1 ∨ n % 3 = 2 := by omega
    rcases hm with h | h | h
    · have e : (wpre (n + 1)).reverse = 40 :: (wpre n).reverse := by rw [wpre_0 n h]; simp
      have e1 : pre ++ (wpre (n + 1)).reverse ++ rest = pre ++ 40 :: ((wpre n).reverse ++ rest) := by rw [e]; simp
      have e2 : pre ++ (wpre (n + 1)).reverse ++ rest = (pre ++ [40]) ++ (wpre n).reverse ++ rest := by rw [e]; simp
      have r1 := Rn.lp pre ((wpre n).reverse ++ rest)
      rw [← e1] at r1
      have r2 := ih (pre ++ [40]) rest
      rw [← e2, List.length_append, List.length_singleton] at r2
      have := r1.trans r2
      rw [show pre.length + 1 + (wpre n).length = pre.length + (wpre (n + 1)).length by rw [wpre_0 n h]; simp; omega] at this
      have ew : wtok (n + 1) = [(15, 0)] ++ wtok n := by simp [wtok, wk, h]
      rw [ew]
      exact this
    · have e : (wpre (n + 1)).reverse = 45 :: (wpre n).reverse := by rw [wpre_1 n h]; simp
      have e1 : pre ++ (wpre (n + 1)).reverse ++ rest = pre ++ 45 :: ((wpre n).reverse ++ rest) := by rw [e]; simp
      have e2 : pre ++ (wpre (n + 1)).reverse ++ rest = (pre ++ [45]) ++ (wpre n).reverse ++ rest := by rw [e]; simp
      have r1 := Rn.neg pre ((wpre n).reverse ++ rest)
      rw [← e1] at r1
      have r2 := ih (pre ++ [45]) rest
      rw [← e2, List.length_append, List.length_singleton] at r2
      have := r1.trans r2
      rw [show pre.length + 1 + (wpre n).length = pre.length + (wpre (n + 1)).length by rw [wpre_1 n h]; simp; omega] at this
      have ew : wtok (n + 1) = [(20, 0)] ++ wtok n := by simp [wtok, wk, h]
      rw [ew]
      exact this
    · have e : (wpre (n + 1)).reverse = 32 :: 78 :: 79 :: 84 :: (wpre n).reverse := by rw [wpre_2 n h]; simp
      have hb : Brk ((wpre n).reverse ++ rest) := by
        obtain ⟨q, rfl⟩ : ∃ q, n = q + 1 := ⟨n - 1, by omega⟩
        rw [wpre_1 q (by omega)]
        simp only [List.reverse_append, List.reverse_cons, List.reverse_nil, List.nil_append, List.cons_append]
        exact Brk.cons 45 _ (by decide)
      have e1 : pre ++ (wpre (n + 1)).reverse ++ rest = pre ++ 32 :: ([78, 79, 84] ++ ((wpre n).reverse ++ rest)) := by rw [e]; simp
      have e2 : pre ++ (wpre (n + 1)).reverse ++ rest = (pre ++ [32]) ++ [78, 79, 84] ++ ((wpre n).reverse ++ rest) := by rw [e]; simp
      have e3 : pre ++ (wpre (n + 1)).reverse ++ rest = (pre ++ [32] ++ [78, 79, 84]) ++ (wpre n).reverse ++ rest := by rw [e]; simp
      have r1 := Rn.space pre ([78, 79, 84] ++ ((wpre n).reverse ++ rest))
      rw [← e1] at r1
      have r2 := Rn.not (pre ++ [32]) ((wpre n).reverse ++ rest) hb
      rw [← e2, List.length_append, List.length_singleton] at r2
      have r3 := ih (pre ++ [32] ++ [78, 79, 84]) rest
      rw [← e3] at r3
      have el : (pre ++ [32] ++ [78, 79, 84]).length = pre.length + 1 + 3 := by simp
      rw [el] at r3
      have := (r1.trans r2).trans r3
      rw [show pre.length + 1 + 3 + (wpre n).length = pre.length + (wpre (n + 1)).length by rw [wpre_2 n h]; simp; omega] at this
      have ew : wtok (n + 1) = [] ++ [(8, 0)] ++ wtok n := by simp [wtok, wk, h]
      rw [ew]
      exact this
/-- The tokens of the wrapped text, up to its tail. -/
theorem wrap_run (n : Nat) {t0 : Int × Int} {ps : List ((Int × Int) × (Int × Int))} (h : FlatC t0 ps) (k : Nat) (m : List UInt8) (hm : Brk m) :
    Rn (tx (sel ++ (wpre n).reverse ++ render (chainT t0 ps) ++ List.replicate k 41 ++ m)) 0 (sel ++ (wpre n).reverse ++ render (chainT t0 ps) ++ List.replicate k 41).length ([(1, 0)] ++ wtok n ++ chainT t0 ps ++ List.replicate k (16, 0)) := by
  have r1 := Rn.select [] (32 :: ((wpre n).reverse ++ (render (chainT t0 ps) ++ (List.replicate k 41 ++ m)))) (Brk.cons 32 _ (by decide))
  have r2 := Rn.space [83, 69, 76, 69, 67, 84] ((wpre n).reverse ++ (render (chainT t0 ps) ++ (List.replicate k 41 ++ m)))
  have r3 := front_run n sel (render (chainT t0 ps) ++ (List.replicate k 41 ++ m))
  have r4 := chain_run h (sel ++ (wpre n).reverse) (List.replicate k 41 ++ m) ((Brk.rps k).append hm)
  have r5 := rp_run k (sel ++ (wpre n).reverse ++ render (chainT t0 ps)) m
  have e0 : sel = [83, 69, 76, 69, 67, 84] ++ [32] := rfl
  have e1 : ([] : List UInt8) ++ [83, 69, 76, 69, 67, 84] ++ 32 :: ((wpre n).reverse ++ (render (chainT t0 ps) ++ (List.replicate k 41 ++ m))) = sel ++ (wpre n).reverse ++ render (chainT t0 ps) ++ List.replicate k 41 ++ m := by rw [e0]; simp
  have e2 : [83, 69, 76, 69, 67, 84] ++ 32 :: ((wpre n).reverse ++ (render (chainT t0 ps) ++ (List.replicate k 41 ++ m))) = sel ++ (wpre n).reverse ++ render (chainT t0 ps) ++ List.replicate k 41 ++ m := by rw [e0]; simp
  have e3 : sel ++ (wpre n).reverse ++ (render (chainT t0 ps) ++ (List.replicate k 41 ++ m)) = sel ++ (wpre n).reverse ++ render (chainT t0 ps) ++ List.replicate k 41 ++ m := by simp
  have e4 : sel ++ (wpre n).reverse ++ render (chainT t0 ps) ++ (List.replicate k 41 ++ m) = sel ++ (wpre n).reverse ++ render (chainT t0 ps) ++ List.replicate k 41 ++ m := by simp
  rw [e1] at r1
  rw [e2] at r2
  rw [e3] at r3
  rw [e4] at r4
  generalize sel ++ (wpre n).reverse ++ render (chainT t0 ps) ++ List.replicate k 41 ++ m = X at *
  have l3 : sel.length = 7 := rfl
  have l4 : (sel ++ (wpre n).reverse).length = 7 + (wpre n).length := by rw [List.length_append, List.length_reverse]; rfl
  have l5 : (sel ++ (wpre n).reverse ++ render (chainT t0 ps)).length = 7 + (wpre n).length + (render (chainT t0 ps)).length := by rw [List.length_append, l4]
  have l6 : (sel ++ (wpre n).reverse ++ render (chainT t0 ps) ++ List.replicate k 41).length = 7 + (wpre n).length + (render (chainT t0 ps)).length + k := by rw [List.length_append, l5, List.length_replicate]
  rw [l3] at r3
  rw [l4] at r4
  rw [l5] at r5
  rw [l6]
  have := (((r1.trans r2).trans r3).trans r4).trans r5
  simpa using this
end Go.Proofs.YbyabwGreat
