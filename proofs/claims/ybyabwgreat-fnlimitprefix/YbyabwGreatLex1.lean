/- Walks: the classes of bytes, the keywords (impl and spec) -/
import Derived.Test.YbyabwGreatProg
import Derived.Test.YbyabwGreatDraw
import Derived.Test.YbyabwGreatMem
import Derived.KernelRfl
namespace Go.Proofs.YbyabwGreat
open Go.RowKit
set_option maxRecDepth 100000
set_option linter.unusedVariables false
set_option linter.unusedSimpArgs false

/-- A call that hands back v and leaves the world as it was. -/
def RetV (v : Value) (w : World) : Ending → World → Prop := fun e w' => e = .returned v ∧ w = w'

def isL (b : Int) : Bool := (decide (65 ≤ b) && decide (b ≤ 90)) || (decide (97 ≤ b) && decide (b ≤ 122))
def isD (b : Int) : Bool := decide (48 ≤ b) && decide (b ≤ 57)
def isS (b : Int) : Bool := (b == 32) || (b == 9) || (b == 10) || (b == 13)

set_option maxHeartbeats 1000000 in
theorem impl.isLetter (b : Int) (x : Bool) (hx : isL b = x) (w : World) : Calls Yabn.prog 71 #[.int .u8 b] w (RetV (.bool x) w) := by
  subst hx
  unfold isL
  by_cases h1 : 65 ≤ b
  · by_cases h2 : b ≤ 90
    · go_enter Yabn.func71, Yabn.ntmps71
      go_wp2
      go_ret
      exact ⟨by simp [h1, h2] <;> try omega, rfl⟩
    · by_cases h3 : 97 ≤ b
      · by_cases h4 : b ≤ 122
        · go_enter Yabn.func71, Yabn.ntmps71
          go_wp2
          go_ret
          exact ⟨by simp [h1, h2, h3, h4] <;> try omega, rfl⟩
        · go_enter Yabn.func71, Yabn.ntmps71
          go_wp2
          go_ret
          exact ⟨by simp [h1, h2, h3, h4] <;> try omega, rfl⟩
      · go_enter Yabn.func71, Yabn.ntmps71
        go_wp2
        go_ret
        exact ⟨by simp [h1, h2, h3] <;> try omega, rfl⟩
  · have h3 : ¬ 97 ≤ b := by omega
    go_enter Yabn.func71, Yabn.ntmps71
    go_wp2
    go_ret
    exact ⟨by simp [h1, h3] <;> try omega, rfl⟩

set_option maxHeartbeats 1000000 in
theorem impl.isDigit (b : Int) (x : Bool) (hx : isD b = x) (w : World) : Calls Yabn.prog 72 #[.int .u8 b] w (RetV (.bool x) w) := by
  subst hx
  unfold isD
  by_cases h1 : 48 ≤ b
  · by_cases h2 : b ≤ 57
    · go_enter Yabn.func72, Yabn.ntmps72
      go_wp2
      go_ret
      exact ⟨by simp [h1, h2] <;> try omega, rfl⟩
    · go_enter Yabn.func72, Yabn.ntmps72
      go_wp2
      go_ret
      exact ⟨by simp [h1, h2] <;> try omega, rfl⟩
  · go_enter Yabn.func72, Yabn.ntmps72
    go_wp2
    go_ret
    exact ⟨by simp [h1] <;> try omega, rfl⟩
set_option maxHeartbeats 1000000 in
theorem spec.isLetter (b : Int) (x : Bool) (hx : isL b = x) (w : World) : Calls Yabn.prog 83 #[.int .u8 b] w (RetV (.bool x) w) := by
  subst hx
  unfold isL
  by_cases h1 : 65 ≤ b
  · by_cases h2 : b ≤ 90
    · go_enter Yabn.func83, Yabn.ntmps83
      go_wp2
      go_ret
      exact ⟨by simp [h1, h2] <;> try omega, rfl⟩
    · by_cases h3 : 97 ≤ b
      · by_cases h4 : b ≤ 122
        · go_enter Yabn.func83, Yabn.ntmps83
          go_wp2
          go_ret
          exact ⟨by simp [h1, h2, h3, h4] <;> try omega, rfl⟩
        · go_enter Yabn.func83, Yabn.ntmps83
          go_wp2
          go_ret
          exact ⟨by simp [h1, h2, h3, h4] <;> try omega, rfl⟩
      · go_enter Yabn.func83, Yabn.ntmps83
        go_wp2
        go_ret
        exact ⟨by simp [h1, h2, h3] <;> try omega, rfl⟩
  · have h3 : ¬ 97 ≤ b := by omega
    go_enter Yabn.func83, Yabn.ntmps83
    go_wp2
    go_ret
    exact ⟨by simp [h1, h3] <;> try omega, rfl⟩

set_option maxHeartbeats 1000000 in
theorem spec.isDigit (b : Int) (x : Bool) (hx : isD b = x) (w : World) : Calls Yabn.prog 84 #[.int .u8 b] w (RetV (.bool x) w) := by
  subst hx
  unfold isD
  by_cases h1 : 48 ≤ b
  · by_cases h2 : b ≤ 57
    · go_enter Yabn.func84, Yabn.ntmps84
      go_wp2
      go_ret
      exact ⟨by simp [h1, h2] <;> try omega, rfl⟩
    · go_enter Yabn.func84, Yabn.ntmps84
      go_wp2
      go_ret
      exact ⟨by simp [h1, h2] <;> try omega, rfl⟩
  · go_enter Yabn.func84, Yabn.ntmps84
    go_wp2
    go_ret
    exact ⟨by simp [h1] <;> try omega, rfl⟩

set_option maxHeartbeats 1000000 in
theorem spec.isSpace (b : Int) (x : Bool) (hx : isS b = x) (w : World) : Calls Yabn.prog 82 #[.int .u8 b] w (RetV (.bool x) w) := by
  subst hx
  unfold isS
  by_cases h1 : b = 32
  · subst h1
    go_enter Yabn.func82, Yabn.ntmps82
    go_wp2
    go_ret
    exact ⟨rfl, rfl⟩
  · by_cases h2 : b = 9
    · subst h2
      go_enter Yabn.func82, Yabn.ntmps82
      go_wp2
      go_ret
      exact ⟨rfl, rfl⟩
    · by_cases h3 : b = 10
      · subst h3
        go_enter Yabn.func82, Yabn.ntmps82
        go_wp2
        go_ret
        exact ⟨rfl, rfl⟩
      · have g1 : (b == 32) = false := by simpa using h1
        have g2 : (b == 9) = false := by simpa using h2
        have g3 : (b == 10) = false := by simpa using h3
        clear h1 h2 h3
        go_enter Yabn.func82, Yabn.ntmps82
        go_wp2
        go_ret
        exact ⟨by simp [g1, g2, g3], rfl⟩

def kwOf (w : ByteArray) : Int :=
  if (w.toList == [83, 69, 76, 69, 67, 84]) = true then 1
  else if (w.toList == [87, 72, 69, 82, 69]) = true then 2
  else if (w.toList == [71, 82, 79, 85, 80]) = true then 3
  else if (w.toList == [66, 89]) = true then 4
  else if (w.toList == [76, 73, 77, 73, 84]) = true then 5
  else if (w.toList == [65, 78, 68]) = true then 6
  else if (w.toList == [79, 82]) = true then 7
  else if (w.toList == [78, 79, 84]) = true then 8
  else if (w.toList == [83, 85, 77]) = true then 9
  else if (w.toList == [77, 73, 78]) = true then 10
  else if (w.toList == [77, 65, 88]) = true then 11
  else if (w.toList == [67, 79, 85, 78, 84]) = true then 12
  else 0

set_option maxHeartbeats 1000000 in
theorem impl.keyword (s : ByteArray) (w : World) : Calls Yabn.prog 73 #[.string s] w (RetV (.int .i64 (kwOf s)) w) := by
  go_enter Yabn.func73, Yabn.ntmps73
  go_wp2
  all_goals (go_ret; refine ⟨?_, rfl⟩; simp only [kwOf, *]; rfl)
set_option maxHeartbeats 1000000 in
theorem spec.keywordKind (s : ByteArray) (w : World) : Calls Yabn.prog 85 #[.string s] w (RetV (.int .i64 (kwOf s)) w) := by
  go_enter Yabn.func85, Yabn.ntmps85
  go_wp2
  all_goals (go_ret; refine ⟨?_, rfl⟩; simp only [kwOf, *]; rfl)
end Go.Proofs.YbyabwGreat
