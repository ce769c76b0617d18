/- Walk: impl.noneItemsOK -/
import Derived.Test.YbyabwGreatCmp1
namespace Go.Proofs.YbyabwGreat
open Go.RowKit
set_option maxRecDepth 100000
set_option linter.unusedVariables false
set_option linter.unusedSimpArgs false

/-- The columns of gr, marked. -/
def inL (n : Nat) (gr : List Int) : List Bool := (List.range n).map (fun (i : Nat) => decide ((i : Int) ∈ gr))
theorem inL_len (n : Nat) (gr : List Int) : (inL n gr).length = n := by simp [inL]
theorem inL_at (n : Nat) (gr : List Int) (i : Nat) (h : i < n) : (inL n gr).getD i false = decide ((i : Int) ∈ gr) := by
  simp [inL, h]
theorem inL_nil (n : Nat) : inL n [] = List.replicate n false := by
  apply List.ext_getElem
  · simp [inL]
  · intro i h1 h2
    simp [inL]
theorem inL_snoc (n : Nat) (gr : List Int) (g : Nat) : (inL n gr).set g true = inL n (gr ++ [(g : Int)]) := by
  apply List.ext_getElem
  · simp [inL]
  · intro i h1 h2
    rw [List.getElem_set]
    simp only [inL, List.getElem_map, List.getElem_range, List.mem_append, List.mem_singleton]
    by_cases e : g = i
    · subst e; simp
    · rw [if_neg e]
      have : ¬ (i : Int) = (g : Int) := by omega
      simp [this]
/-- A row that fills: the first k are reckoned. -/
def fillZ {α : Type} (f : Nd → List α → α) (nd : List Nd) (z : α) (k : Nat) : List α := toL f nd k ++ List.replicate (nd.length - k) z
theorem fillZ_zero {α : Type} (f : Nd → List α → α) (nd : List Nd) (z : α) : fillZ f nd z 0 = List.replicate nd.length z := by simp [fillZ, toL]
theorem fillZ_len {α : Type} (f : Nd → List α → α) (nd : List Nd) (z : α) (k : Nat) (h : k ≤ nd.length) : (fillZ f nd z k).length = nd.length := by simp [fillZ, toL_len]; omega
theorem fillZ_full {α : Type} (f : Nd → List α → α) (nd : List Nd) (z : α) : fillZ f nd z nd.length = toL f nd nd.length := by simp [fillZ]
theorem fillZ_at {α : Type} (f : Nd → List α → α) (nd : List Nd) (z d : α) (k i : Nat) (h : i < k) : (fillZ f nd z k).getD i d = (toL f nd k).getD i d := by
  unfold fillZ
  rw [List.getD_eq_getElem?_getD, List.getD_eq_getElem?_getD, List.getElem?_append_left (by rw [toL_len]; exact h)]
theorem fillZ_set {α : Type} (f : Nd → List α → α) (nd : List Nd) (z : α) (k : Nat) (h : k < nd.length) : (fillZ f nd z k).set k (f (nd.getD k nd0) (toL f nd k)) = fillZ f nd z (k + 1) := by
  unfold fillZ
  rw [List.set_append_right _ _ (by rw [toL_len]; omega), toL_len, Nat.sub_self]
  obtain ⟨m, hm⟩ : ∃ m, nd.length - k = m + 1 := ⟨nd.length - k - 1, by omega⟩
  rw [hm, show nd.length - (k + 1) = m by omega, List.replicate_succ, List.set_cons_zero]
  simp [toL]

theorem take_snoc_I (l : List Int) (k : Nat) (h : k < l.length) : l.take (k + 1) = l.take k ++ [l.getD k 0] := by
  rw [List.take_succ_eq_append_getElem h, List.getD_eq_getElem?_getD, List.getElem?_eq_getElem h]; rfl
theorem getD_mem_I (l : List Int) (k : Nat) (h : k < l.length) : l.getD k 0 ∈ l := by
  rw [List.getD_eq_getElem?_getD, List.getElem?_eq_getElem h]; exact List.getElem_mem h
set_option maxHeartbeats 16000000 in
theorem noneItemsOK (nd : List Nd) (its : List (Int × Int)) (gr : List Int) (na ia ga : Option Addr) (nc ic gc n : Nat) (w : World) (hN : Hid (NodesAt w na nd)) (hI : Hid (PairsAt w ia its)) (hG : Hid (IntsAt w ga gr))
    (hnl : nd.length ≤ 131072) (hil : its.length ≤ 65536) (hgl : gr.length ≤ 131072) (hn : n ≤ 256) (hw : Hid (WfA nd n)) (hit : Hid (ItsOK nd.length its)) (hgr : Hid (GrP n gr)) :
    Calls Yabn.prog 44 #[.slice na nd.length nc, .int .i64 n, .slice ia its.length ic, .slice ga gr.length gc] w (RetBool (NoneP nd its gr) w) := by
  go_enter Yabn.func44, Yabn.ntmps44
  go_wp2_with (at_make; refine mk_bool rfl rfl n rfl rfl (by omega) w.heap.size rfl ?_; intro w1 O1 x1 z1; replace O1 := hide O1; replace x1 := hide x1)
  go_loopw [22] (fun i wr => ∃ k : Nat, i = .int .i64 k ∧ k ≤ gr.length ∧ Hid (OwnZ wr w.heap.size (.slice (some ⟨w.heap.size, 0, none⟩) n n) (inL n (gr.take k))) ∧ Hid (Ext w wr)) (fun i _ => gr.length - (intOf i).toNat)
  case atStart => exact ⟨0, rfl, Nat.zero_le _, by rw [List.take_zero, inL_nil]; exact O1, x1⟩
  clear O1 x1 z1
  obtain ⟨k, rfl, hk, hO, hX⟩ := hrel
  by_cases hlt : k < gr.length
  · have hlt' : (k : Int) < gr.length := by omega
    obtain ⟨b, off, rfl, c1⟩ := (hG.out.ext hX.out) k hlt
    have hg := hgr.out _ (getD_mem_I gr k hlt)
    have htk := take_snoc_I gr k hlt
    obtain ⟨y, hy⟩ : ∃ y, gr.getD k 0 = y := ⟨_, rfl⟩
    rw [hy] at c1 hg htk
    obtain ⟨m, rfl⟩ := Int.eq_ofNat_of_zero_le hg.1
    have hmn : (m : Int) < n := hg.2
    have fz := hO.out.frozenAt m
    have cm := hO.out.cellAt m (by rw [inL_len]; omega)
    have hst : Hid (OwnZ (wr.setCell ⟨w.heap.size, m, none⟩ (.bool true)) w.heap.size (.slice (some ⟨w.heap.size, 0, none⟩) n n) (inL n (gr.take (k + 1)))) := (hO.out.stored m true).congr (by rw [htk, inL_snoc])
    have hxt : Hid (Ext w (wr.setCell ⟨w.heap.size, m, none⟩ (.bool true))) := hX.out.setCell (Nat.le_refl _) _
    clear hg htk hy
    go_wp2
    go_roundw
    case rel => exact ⟨k + 1, by go_num, by omega, hst.out, hxt.out⟩
    case measure => simp [intOf]; omega
  · have hlt' : ¬ (k : Int) < gr.length := by omega
    obtain rfl : k = gr.length := by omega
    rw [List.take_length] at hO
    clear hlt hk
    have hBw : Hid (w.heap.size < wr.heap.size) := hO.out.lt.2
    go_wp2_with (at_make; refine mk_bool rfl rfl nd.length rfl rfl (by omega) wr.heap.size rfl ?_; intro w2 O2 x2 z2; have hO2 := hide (hO.out.ext x2); have hX2 : Hid (Ext w w2) := hX.out.trans x2; replace O2 := hide O2; clear x2)
    clear hO
    obtain ⟨B, hB⟩ : ∃ B, wr.heap.size = B := ⟨_, rfl⟩
    rw [hB] at O2 z2 hBw
    simp only [hB]
    clear hX hB
    go_loopw [13] (fun i wr => ∃ k : Nat, i = .int .i64 k ∧ k ≤ nd.length ∧ Hid (OwnZ wr B (.slice (some ⟨B, 0, none⟩) nd.length nd.length) (fillZ (okN gr) nd false k)) ∧ Hid (OwnZ wr w.heap.size (.slice (some ⟨w.heap.size, 0, none⟩) n n) (inL n gr)) ∧ Hid (Ext w wr)) (fun i _ => nd.length - (intOf i).toNat)
    case atStart => exact ⟨0, rfl, Nat.zero_le _, by rw [fillZ_zero]; exact O2, hO2, hX2⟩
    clear O2 hO2 hX2 z2
    obtain ⟨k, rfl, hk, hOk, hIn, hX⟩ := hrel
    by_cases hlt : k < nd.length
    · have hlt' : (k : Int) < nd.length := by omega
      obtain ⟨b, off, rfl, g1, g2, g3, g4⟩ := (hN.out.ext hX.out).get k hlt
      have hwk := hw.out.kind hlt
      have hset := fillZ_set (okN gr) nd false k hlt
      have hcell : Hid (∀ i : Nat, i < k → wr.cell? ⟨B, i, none⟩ = some (.bool ((toL (okN gr) nd k).getD i false))) := fun i hi => by
        have := hOk.out.cellAt i (by rw [fillZ_len _ _ _ _ hk]; omega)
        rw [fillZ_at _ _ _ _ _ _ hi] at this
        exact this
      have fz := hOk.out.frozenAt k
      have cB := hOk.out.cellAt k (by rw [fillZ_len _ _ _ _ hk]; omega)
      have hst : ∀ ob, OwnZ ((wr.setCell ⟨B, k, none⟩ (.bool (okN gr (nd.getD k nd0) (toL (okN gr) nd k)))).alloc ob) B (.slice (some ⟨B, 0, none⟩) nd.length nd.length) (fillZ (okN gr) nd false (k + 1)) := fun ob => ((hOk.out.stored k _).congr hset).alloc ob
      have hin2 : Hid (∀ ob v, OwnZ ((wr.setCell ⟨B, k, none⟩ v).alloc ob) w.heap.size (.slice (some ⟨w.heap.size, 0, none⟩) n n) (inL n gr)) := fun ob v => by
        refine OwnZ.alloc (OwnZ.butS (S := fun q => q = B) hIn.out (But.of_grown (grown_setCell wr ⟨B, k, none⟩ v) (fun q hq => by cases hq; rfl)) (fun q hq hh => ?_)) ob
        cases hq
        have h1 := hBw.out
        have h2 : w.heap.size = B := hh
        omega
      have hxt : Hid (∀ ob v, Ext w ((wr.setCell ⟨B, k, none⟩ v).alloc ob)) := fun ob v => (hX.out.setCell (by have := hBw.out; show w.heap.size ≤ B; omega) v).alloc ob
      obtain ⟨⟨o, y, l, r⟩, hnd⟩ : ∃ m, nd.getD k nd0 = m := ⟨_, rfl⟩
      rw [hnd] at g1 g2 g3 g4 hwk hst
      simp only at g1 g2 g3 g4 hwk
      have hT : Hid (Blk (wr.alloc (.cells #[.int .i64 o, .int .i64 y, .int .i64 l, .int .i64 r] 98)) wr.heap.size 98 [.int .i64 o, .int .i64 y, .int .i64 l, .int .i64 r]) := Blk.new wr _ _
      have t0 := hT.out.box 0 _ rfl
      have t1 := hT.out.box 1 _ rfl
      have t2 := hT.out.box 2 _ rfl
      have t3 := hT.out.box 3 _ rfl
      have hBs := hOk.out.lt.2
      have hIs := hIn.out.lt.2
      obtain ⟨zB, hzB⟩ : ∃ z, (fillZ (okN gr) nd false k).getD k false = z := ⟨_, rfl⟩
      rw [hzB] at cB
      clear hnd hset hzB
      obtain ⟨vs, hvs⟩ : ∃ vs, toL (okN gr) nd k = vs := ⟨_, rfl⟩
      rw [hvs] at hst hcell
      clear hvs
      rcases hwk with ho | ⟨ho, hy0, hy1⟩ | ⟨m, ho, rfl, hmk⟩ | ⟨m, m2, ho, rfl, rfl, hmk, hmk2⟩
      · subst ho
        replace hst := hide hst
        go_wp2_with (go_at_call 41; refine (impl.isBinary _ _).mono ?_; rintro e wx ⟨rfl, rfl⟩)
        go_roundw
        case rel => exact ⟨k + 1, by go_num, by omega, hst.out _, hin2.out _ _, hxt.out _ _⟩
        case measure => simp [intOf]; omega
      · subst ho
        obtain ⟨z, rfl⟩ := Int.eq_ofNat_of_zero_le hy0
        have hzn : (z : Int) < n := hy1
        have cI := hIn.out.cellAt z (by rw [inL_len]; omega)
        rw [inL_at n gr z (by omega)] at cI
        have e9 : okN gr ⟨2, (z : Int), l, r⟩ vs = decide ((z : Int) ∈ gr) := by simp [okN]
        rw [e9] at hst
        obtain ⟨bz, hbz⟩ : ∃ b, decide ((z : Int) ∈ gr) = b := ⟨_, rfl⟩
        rw [hbz] at cI hst
        clear hbz e9
        replace hst := hide hst
        go_wp2_with (go_at_call 41; refine (impl.isBinary _ _).mono ?_; rintro e wx ⟨rfl, rfl⟩)
        go_roundw
        case rel => exact ⟨k + 1, by go_num, by omega, hst.out _, hin2.out _ _, hxt.out _ _⟩
        case measure => simp [intOf]; omega
      · have hmn : (m : Int) < nd.length := by omega
        have hm0 : (0 : Int) ≤ m := by omega
        have cm := hcell.out m hmk
        have e9 : okN gr ⟨o, y, (m : Int), r⟩ vs = vs.getD m false := by unfold okN; rw [if_neg (by simp only; omega), if_pos ho, Int.toNat_natCast]
        rw [e9] at hst
        obtain ⟨bz, hbz⟩ : ∃ b, vs.getD m false = b := ⟨_, rfl⟩
        rw [hbz] at cm hst
        clear hbz e9
        replace hst := hide hst
        rcases ho with rfl | rfl
        · skip
          go_wp2_with (go_at_call 41; refine (impl.isBinary _ _).mono ?_; rintro e wx ⟨rfl, rfl⟩)
          go_roundw
          case rel => exact ⟨k + 1, by go_num, by omega, hst.out _, hin2.out _ _, hxt.out _ _⟩
          case measure => simp [intOf]; omega
        · skip
          go_wp2_with (go_at_call 41; refine (impl.isBinary _ _).mono ?_; rintro e wx ⟨rfl, rfl⟩)
          go_roundw
          case rel => exact ⟨k + 1, by go_num, by omega, hst.out _, hin2.out _ _, hxt.out _ _⟩
          case measure => simp [intOf]; omega
      · have hmn : (m : Int) < nd.length := by omega
        have hm2n : (m2 : Int) < nd.length := by omega
        have hm0 : (0 : Int) ≤ m := by omega
        have cm := hcell.out m hmk
        have cm2 := hcell.out m2 hmk2
        have o2 : (o == 2) = false := by simp; omega
        have o3 : (o == 3) = false := by simp; omega
        have o15 : (o == 15) = false := by simp; omega
        have e9 : okN gr ⟨o, y, (m : Int), (m2 : Int)⟩ vs = (vs.getD m false && vs.getD m2 false) := by unfold okN; rw [if_neg (by simp only; omega), if_neg (by simp only; omega), if_pos ho, Int.toNat_natCast, Int.toNat_natCast]
        rw [e9] at hst
        obtain ⟨b1, hb1⟩ : ∃ b, vs.getD m false = b := ⟨_, rfl⟩
        obtain ⟨b2, hb2⟩ : ∃ b, vs.getD m2 false = b := ⟨_, rfl⟩
        rw [hb1] at cm hst
        rw [hb2] at cm2 hst
        clear hb1 hb2 e9
        obtain ⟨ho4, ho14⟩ := ho
        have ho4' : decide (4 ≤ o) = true := by simp [ho4]
        have ho14' : decide (o ≤ 14) = true := by simp [ho14]
        cases b1 with
        | true =>
          replace hst := hide hst
          go_wp2_with (go_at_call 41; refine (impl.isBinary _ _).mono ?_; rintro e wx ⟨rfl, rfl⟩)
          go_roundw
          case rel => exact ⟨k + 1, by go_num, by omega, hst.out _, hin2.out _ _, hxt.out _ _⟩
          case measure => simp [intOf]; omega
        | false =>
          replace hst := hide hst
          go_wp2_with (go_at_call 41; refine (impl.isBinary _ _).mono ?_; rintro e wx ⟨rfl, rfl⟩)
          go_roundw
          case rel => exact ⟨k + 1, by go_num, by omega, hst.out _, hin2.out _ _, hxt.out _ _⟩
          case measure => simp [intOf]; omega
    · have hlt' : ¬ (k : Int) < nd.length := by omega
      obtain rfl : k = nd.length := by omega
      rw [fillZ_full] at hOk
      clear hlt hk
      go_wp2_with fail
      go_loopw [85] (fun i wr => ∃ k : Nat, i = .int .i64 k ∧ k ≤ its.length ∧ Hid (∀ j, j < k → (its.getD j (0, 0)).1 = 0 → okAt gr nd (its.getD j (0, 0)).2.toNat = true) ∧ Hid (OwnZ wr B (.slice (some ⟨B, 0, none⟩) nd.length nd.length) (toL (okN gr) nd nd.length)) ∧ Hid (Ext w wr)) (fun i _ => its.length - (intOf i).toNat)
      case atStart => exact ⟨0, rfl, Nat.zero_le _, fun j hj => by omega, hOk, hX⟩
      clear hOk hX hIn
      obtain ⟨k, rfl, hk, hpre, hOk, hX⟩ := hrel
      by_cases hlt : k < its.length
      · have hlt' : (k : Int) < its.length := by omega
        have hmem := hide (getD_mem_it its k hlt)
        have hio := hit.out _ hmem.out
        have hnx : Hid (((its.getD k (0, 0)).1 = 0 → okAt gr nd (its.getD k (0, 0)).2.toNat = true) → ∀ j, j < k + 1 → (its.getD j (0, 0)).1 = 0 → okAt gr nd (its.getD j (0, 0)).2.toNat = true) := fun h1 j hj => by
          by_cases hjk : j < k
          · exact hpre.out j hjk
          · obtain rfl : j = k := by omega
            exact h1
        obtain ⟨b, off, rfl, c1, c2⟩ := (hI.out.ext hX.out) k hlt
        obtain ⟨⟨g, y⟩, hgy⟩ : ∃ p, its.getD k (0, 0) = p := ⟨_, rfl⟩
        rw [hgy] at c1 c2 hmem hnx hio
        simp only at c1 c2 hnx
        clear hgy
        have hT : Hid (Blk (wr.alloc (.cells #[.int .i64 g, .int .i64 y] 89)) wr.heap.size 89 [.int .i64 g, .int .i64 y]) := Blk.new wr _ _
        have hx1 : Hid (Ext w (wr.alloc (.cells #[.int .i64 g, .int .i64 y] 89))) := hX.out.alloc _
        have hO1 := hide (hOk.out.alloc (.cells #[.int .i64 g, .int .i64 y] 89))
        have t0 := hT.out.box 0 _ rfl
        have t1 := hT.out.box 1 _ rfl
        by_cases hg0 : g = 0
        · have hyr : 0 ≤ y ∧ y < nd.length := by
            rcases hio.2.2 with ⟨h1, _⟩ | ⟨_, h1⟩
            · simp only at h1; omega
            · exact h1
          obtain ⟨x, rfl⟩ := Int.eq_ofNat_of_zero_le hyr.1
          have hxn : (x : Int) < nd.length := hyr.2
          have cx := hO1.out.cellAt x (by rw [toL_len]; omega)
          rw [toL_at false nd.length x (by omega)] at cx
          have e9 : Hid (okN gr (nd.getD x nd0) (toL (okN gr) nd x) = okAt gr nd x) := rfl
          rw [e9.out] at cx
          rw [Int.toNat_natCast] at hnx
          obtain ⟨bz, hbz⟩ : ∃ b, Hid (okAt gr nd x = b) := ⟨_, rfl⟩
          rw [hbz.out] at cx
          clear e9 hyr hio
          subst hg0
          cases bz with
          | true =>
            have hnext := hide (hnx.out (fun _ => hbz.out))
            go_wp2
            go_roundw
            case rel => exact ⟨k + 1, by go_num, by omega, hnext.out, hO1.out, hx1.out⟩
            case measure => simp [intOf]; omega
          | false =>
            have hbad : Hid (¬ NoneP nd its gr) := fun hh => by
              have := hh _ hmem.out rfl
              simp only [Int.toNat_natCast] at this
              rw [hbz.out] at this
              cases this
            go_wp2
            go_ret
            exact RetBool.no hbad.out hx1.out
        · have hgb : (g == 0) = false := by simp [hg0]
          have hnext := hide (hnx.out (fun h => absurd h hg0))
          replace hg0 := hide hg0
          clear hio
          go_wp2
          go_roundw
          case rel => exact ⟨k + 1, by go_num, by omega, hnext.out, hO1.out, hx1.out⟩
          case measure => simp [intOf]; omega
      · have hlt' : ¬ (k : Int) < its.length := by omega
        have hall : Hid (NoneP nd its gr) := fun it hm => by
          obtain ⟨j, hj, rfl⟩ := mem_getD hm
          exact hpre.out j (by omega)
        go_wp2
        go_ret
        exact ⟨true, rfl, ⟨fun _ => hall.out, fun _ => rfl⟩, hX.out⟩
end Go.Proofs.YbyabwGreat
