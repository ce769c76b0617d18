/- Walk: spec.aggRule -/
import Derived.Test.YbyabwGreatSpc4
namespace Go.Proofs.YbyabwGreat
open Go.RowKit
set_option maxRecDepth 100000
set_option linter.unusedVariables false
set_option linter.unusedSimpArgs false

def RetAgg (nd : List Nd) (its : List (Int × Int)) (gr : List Int) (w : World) : Ending → World → Prop := fun en w' => Ext w w' ∧ ∃ ok : Bool, en = .returned (.tuple #[.bool (aggW its gr), .bool ok]) ∧ (ok = true ↔ (aggW its gr = true → NoneP nd its gr))
def anyK (its : List (Int × Int)) (gr : List Int) (k : Nat) : Bool := decide (0 < gr.length) || (its.take k).any (fun it => it.1 != 0)
theorem anyK_succ (its : List (Int × Int)) (gr : List Int) (k : Nat) (h : k < its.length) : anyK its gr (k + 1) = (anyK its gr k || ((its.getD k (0, 0)).1 != 0)) := by
  unfold anyK
  rw [take_succ_it its k h, List.any_append]
  simp [Bool.or_assoc]
theorem anyK_all (its : List (Int × Int)) (gr : List Int) : anyK its gr its.length = aggW its gr := by unfold anyK aggW; rw [List.take_length]
set_option maxHeartbeats 8000000 in
theorem aggRule (nd : List Nd) (its : List (Int × Int)) (gr : List Int) (na ia ga : Option Addr) (nc ic gc n : Nat) (w : World) (hN : Hid (NodesAt w na nd)) (hI : Hid (PairsAt w ia its)) (hG : Hid (IntsAt w ga gr))
    (hnl : nd.length ≤ 131072) (hil : its.length ≤ 65536) (hgl : gr.length ≤ 131072) (hw : Hid (WfA nd n)) (hit : Hid (ItsOK nd.length its)) :
    Calls Yabn.prog 25 #[.slice na nd.length nc, .slice ia its.length ic, .slice ga gr.length gc] w (RetAgg nd its gr w) := by
  have hd0 : decide ((0 : Int) < gr.length) = anyK its gr 0 := by unfold anyK; simp
  obtain ⟨b0, hb0⟩ : ∃ b, Hid (anyK its gr 0 = b) := ⟨_, rfl⟩
  have hdn : decide (0 < gr.length) = b0 := by rw [← hb0.out]; unfold anyK; simp
  rw [hb0.out] at hd0
  go_enter Yabn.func25, Yabn.ntmps25
  go_wp2
  go_loopw [8, 9] (fun b i wr => ∃ (k : Nat) (bb : Bool), b = .bool bb ∧ i = .int .i64 k ∧ k ≤ its.length ∧ Hid (anyK its gr k = bb) ∧ Hid (Ext w wr)) (fun _ i _ => its.length - (intOf i).toNat)
  case atStart => exact ⟨0, b0, by first | rfl | exact congrArg Value.bool hd0 | exact congrArg Value.bool hdn, rfl, Nat.zero_le _, hb0, Ext.refl w⟩
  clear hd0 hb0 hdn
  obtain ⟨k, bb, rfl, rfl, hk, hany, hX⟩ := hrel
  by_cases hlt : k < its.length
  · have hlt' : (k : Int) < its.length := by omega
    have hs := hide (anyK_succ its gr k hlt)
    obtain ⟨b, off, rfl, c1, c2⟩ := (hI.out.ext hX.out) k hlt
    obtain ⟨⟨g, y⟩, hgy⟩ : ∃ p, its.getD k (0, 0) = p := ⟨_, rfl⟩
    rw [hgy] at c1 c2 hs
    simp only at c1 c2 hs
    clear hgy
    by_cases hg0 : g = 0
    · have hgb : (g != 0) = false := by simp [hg0]
      have hnx : Hid (anyK its gr (k + 1) = bb) := by show _ = _; rw [hs.out, hgb, Bool.or_false]; exact hany.out
      replace hg0 := hide hg0
      go_wp2
      go_roundw
      case rel => exact ⟨k + 1, bb, rfl, by go_num, by omega, hnx.out, hX.out⟩
      case measure => simp [intOf] <;> omega
    · have hgb : (g != 0) = true := by simp [hg0]
      have hnx : Hid (anyK its gr (k + 1) = true) := by show _ = _; rw [hs.out, hgb, Bool.or_true]
      replace hg0 := hide hg0
      go_wp2
      go_roundw
      case rel => exact ⟨k + 1, true, rfl, by go_num, by omega, hnx.out, hX.out⟩
      case measure => simp [intOf] <;> omega
  · have hlt' : ¬ (k : Int) < its.length := by omega
    obtain rfl : k = its.length := by omega
    have hag : Hid (aggW its gr = bb) := by show _ = _; rw [← anyK_all]; exact hany.out
    clear hany hlt hk
    cases bb with
    | false =>
      go_wp2
      go_ret2
      exact ⟨hX.out, true, by rw [hag.out]; rfl, ⟨fun _ h => (by rw [hag.out] at h; cases h), fun _ => rfl⟩⟩
    | true =>
      go_wp2
      go_loopw [10] (fun i wr => ∃ k : Nat, i = .int .i64 k ∧ k ≤ its.length ∧ Hid (∀ j, j < k → (its.getD j (0, 0)).1 = 0 → okAt gr nd (its.getD j (0, 0)).2.toNat = true) ∧ Hid (Ext w wr)) (fun i _ => its.length - (intOf i).toNat)
      case atStart => exact ⟨0, rfl, Nat.zero_le _, fun j hj => by omega, hX⟩
      clear hX
      obtain ⟨k, rfl, hk, hpre, hX⟩ := hrel
      by_cases hlt : k < its.length
      · have hlt' : (k : Int) < its.length := by omega
        have hmem := hide (getD_mem_it its k hlt)
        have hio := hit.out _ hmem.out
        have hnx : Hid (((its.getD k (0, 0)).1 = 0 → okAt gr nd (its.getD k (0, 0)).2.toNat = true) → ∀ j, j < k + 1 → (its.getD j (0, 0)).1 = 0 → okAt gr nd (its.getD j (0, 0)).2.toNat = true) := fun h1 j hj => by
          by_cases hjk : j < k
          · exact hpre.out j hjk
          · obtain rfl : j = k := by omega
            exact h1
        obtain ⟨b, off, rfl, c1, c2⟩ := (hI.out.ext hX.out) k hlt
        obtain ⟨⟨g, y⟩, hgy⟩ : ∃ p, its.getD k (0, 0) = p := ⟨_, rfl⟩
        rw [hgy] at c1 c2 hmem hnx hio
        simp only at c1 c2 hnx
        clear hgy
        by_cases hg0 : g = 0
        · have hyr : 0 ≤ y ∧ y < nd.length := by
            rcases hio.2.2 with ⟨h1, _⟩ | ⟨_, h1⟩
            · simp only at h1; omega
            · exact h1
          obtain ⟨x, rfl⟩ := Int.eq_ofNat_of_zero_le hyr.1
          have hxn : x < nd.length := by have := hyr.2; omega
          rw [Int.toNat_natCast] at hnx
          have hgb : (g != 0) = false := by simp [hg0]
          have hbadx : Hid (¬ okAt gr nd x = true → ¬ NoneP nd its gr) := fun h1 h2 => h1 (by have := h2 _ hmem.out hg0; simpa using this)
          have hnxx : Hid (okAt gr nd x = true → ∀ j, j < k + 1 → (its.getD j (0, 0)).1 = 0 → okAt gr nd (its.getD j (0, 0)).2.toNat = true) := fun h1 => hnx.out (fun _ => h1)
          clear hnx hyr hio
          replace hg0 := hide hg0
          go_wp2_with fail
          refine (reachCols nd na nc n x hw hxn hnl wr (hN.out.ext hX.out)).mono ?_
          rintro e w1 ⟨cols, ca, cc, rfl, hO, hok, hcl, x1⟩
          replace hok := hide (hok gr)
          replace hO := hide hO.ints
          replace hX : Hid (Ext w w1) := hX.out.trans x1
          clear x1 c1 c2
          obtain ⟨W, hW⟩ : ∃ W, W = w1 := ⟨_, rfl⟩
          rw [← hW] at hO hX
          go_wp2_with fail
          rw [← hW]
          clear hW
          go_loopw [12] (fun i wr => ∃ k : Nat, i = .int .i64 k ∧ k ≤ cols.length ∧ Hid (∀ j, j < k → cols.getD j 0 ∈ gr) ∧ Hid (Ext W wr)) (fun i _ => cols.length - (intOf i).toNat)
          case atStart => exact ⟨0, rfl, Nat.zero_le _, fun j hj => by omega, Ext.refl W⟩
          obtain ⟨m, rfl, hm, hin, hXW⟩ := hrel
          by_cases hml : m < cols.length
          · have hml' : (m : Int) < cols.length := by omega
            obtain ⟨b2, off2, rfl, c3⟩ := (hO.out.ext hXW.out) m hml
            obtain ⟨cv, hcv⟩ : ∃ c, Hid (cols.getD m 0 = c) := ⟨_, rfl⟩
            rw [hcv.out] at c3
            go_wp2_with fail
            refine (inGroup gr ga gc cv wr (hG.out.ext (hX.out.trans hXW.out)) hgl).mono ?_
            rintro e w2 ⟨bz, rfl, hbz, x2⟩
            replace hbz := hide hbz
            replace hXW : Hid (Ext W w2) := hXW.out.trans x2
            clear x2 c3
            cases bz with
            | false =>
              have hbad : Hid (¬ NoneP nd its gr) := hbadx.out (fun h1 => by
                have h2 := hok.out.1 h1 (cols.getD m 0) (getD_mem_I cols m hml)
                rw [hcv.out] at h2
                exact absurd (hbz.out.2 h2) (by decide))
              go_wp2
              go_ret2
              exact ⟨hX.out.trans hXW.out, false, by rw [hag.out]; rfl, ⟨fun h => (by cases h), fun h => absurd (h hag.out) hbad.out⟩⟩
            | true =>
              have hin2 : Hid (∀ j, j < m + 1 → cols.getD j 0 ∈ gr) := fun j hj => by
                by_cases hjm : j < m
                · exact hin.out j hjm
                · obtain rfl : j = m := by omega
                  rw [hcv.out]
                  exact hbz.out.1 rfl
              go_wp2
              go_roundw
              case rel => exact ⟨m + 1, by go_num, by omega, hin2.out, hXW.out⟩
              case measure => simp [intOf] <;> omega
          · have hml' : ¬ (m : Int) < cols.length := by omega
            have hokx : Hid (okAt gr nd x = true) := hok.out.2 (fun c hc => by
              obtain ⟨j, hj, e⟩ := List.getElem_of_mem hc
              have := hin.out j (by omega)
              rw [List.getD_eq_getElem?_getD, List.getElem?_eq_getElem hj] at this
              rw [← e]
              exact this)
            have hnext := hide (hnxx.out hokx.out)
            have hX9 : Hid (Ext w wr) := hX.out.trans hXW.out
            go_wp2
            go_roundw
            case rel => exact ⟨k + 1, by go_num, by omega, hnext.out, hX9.out⟩
            case measure => simp [intOf] <;> omega
        · have hgb : (g != 0) = true := by simp [hg0]
          have hnext := hide (hnx.out (fun h => absurd h hg0))
          replace hg0 := hide hg0
          clear hio
          go_wp2
          go_roundw
          case rel => exact ⟨k + 1, by go_num, by omega, hnext.out, hX.out⟩
          case measure => simp [intOf] <;> omega
      · have hlt' : ¬ (k : Int) < its.length := by omega
        have hall : Hid (NoneP nd its gr) := fun it hm => by
          obtain ⟨j, hj, rfl⟩ := mem_getD hm
          exact hpre.out j (by omega)
        go_wp2
        go_ret2
        exact ⟨hX.out, true, by rw [hag.out]; rfl, ⟨fun _ _ => hall.out, fun _ => rfl⟩⟩
end Go.Proofs.YbyabwGreat
