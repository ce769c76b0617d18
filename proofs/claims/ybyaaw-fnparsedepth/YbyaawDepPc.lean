/- Plain: the law of DepthText's two texts. No Go here. -/
import Derived.Test.YbyaawDepPb
import Derived.Test.YbyaawPrsQ
namespace Go.Proofs.Ybyaaw
open Go.RowKit
set_option linter.unusedVariables false

theorem Pq.none_of {x : ByteArray} {r : Option Qy} (h : Pq x r) (ht : tokens x = none) : r = none := by
  rcases h with ⟨_, rfl⟩ | ⟨ts, h1, _⟩
  · rfl
  · rw [ht] at h1; cases h1
theorem Pq.some_of {x : ByteArray} {r : Option Qy} {ts : List (Int × Int)} (h : Pq x r) (ht : tokens x = some ts) : Q0 ts r := by
  rcases h with ⟨h1, _⟩ | ⟨ts', h1, h2⟩
  · rw [ht] at h1; cases h1
  · rw [ht] at h1; cases h1; exact h2
theorem depth_law {t0 : Int × Int} {ps : Prs2} (h : FlatC t0 ps) (n : Nat) (m : List UInt8) (hm : SpJ m) (rp rw : Option Qy)
    (hp : Pq (tx (sel ++ render (chainT t0 ps) ++ m)) rp) (hw : Pq (tx (sel ++ (wpre n).reverse ++ render (chainT t0 ps) ++ List.replicate ((n + 2) / 3) 41 ++ m)) rw) :
    (rw = none ∧ (rp = none ∨ 4096 < n ∨ 65536 < (sel ++ (wpre n).reverse ++ render (chainT t0 ps) ++ List.replicate ((n + 2) / 3) 41 ++ m).length)) ∨
    ∃ qp qw x N, rp = some qp ∧ rw = some qw ∧ n ≤ 4096 ∧ (sel ++ (wpre n).reverse ++ render (chainT t0 ps) ++ List.replicate ((n + 2) / 3) 41 ++ m).length ≤ 65536 ∧ 0 ≤ x ∧ x + 1 = ((N : List Nd).length : Int) ∧ qp.its = [(0, x)] ∧ qw.its = [(0, x + (((n + 1) / 3 + n / 3 : Nat) : Int))] ∧
      qw.nd.length = qp.nd.length + ((n + 1) / 3 + n / 3) ∧ (∃ e, qp.nd = N ++ e) ∧ ∃ e, qw.nd = N ++ e := by
  obtain ⟨eW, eP⟩ := depth_tokens n h m hm
  have hle : (sel ++ render (chainT t0 ps) ++ m).length ≤ (sel ++ (wpre n).reverse ++ render (chainT t0 ps) ++ List.replicate ((n + 2) / 3) 41 ++ m).length := by
    simp only [List.length_append]; omega
  by_cases hl : 65536 < (sel ++ (wpre n).reverse ++ render (chainT t0 ps) ++ List.replicate ((n + 2) / 3) 41 ++ m).length
  · rw [if_pos hl] at eW
    exact .inl ⟨hw.none_of eW, .inr (.inr hl)⟩
  · rw [if_neg hl] at eW
    rw [if_neg (by omega)] at eP
    cases htm : tokM m with
    | none =>
      rw [htm] at eW eP
      exact .inl ⟨hw.none_of eW, .inl (hp.none_of eP)⟩
    | some tm =>
      rw [htm] at eW eP
      simp only [Option.map_some] at eW eP
      have qP := hp.some_of eP
      have qW := hw.some_of eW
      have e : [((1 : Int), (0 : Int))] ++ wtok n ++ chainT t0 ps ++ List.replicate ((n + 2) / 3) (16, 0) ++ tm = [(1, 0)] ++ wlist n (chainT t0 ps) ++ tm := by simp [wlist, rps]
      rw [e] at qW
      rcases tok_law h n tm (tokM_ok m hm tm htm) rp rw qP qW with ⟨a, b⟩ | ⟨qp, qw, x, N, a, b, c, d⟩
      · refine .inl ⟨a, ?_⟩
        rcases b with b | b
        · exact .inl b
        · exact .inr (.inl b)
      · exact .inr ⟨qp, qw, x, N, a, b, c, by omega, d⟩
end Go.Proofs.Ybyaaw
