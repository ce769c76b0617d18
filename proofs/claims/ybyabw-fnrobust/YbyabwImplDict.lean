/- Walk: impl.EncodeDict -/
import Derived.Test.YbyabwImplEnc
import Derived.Test.YbyabwImplSort
namespace Go.Proofs.Ybyabw
open Go.RowKit
set_option maxRecDepth 100000
set_option linter.unusedVariables false

theorem dedupTo_hit (S : List Int) (k : Nat) (h : k = 0 ∨ S.getD k 0 ≠ S.getD (k - 1) 0) : dedupTo S k ++ [S.getD k 0] = dedupTo S (k + 1) := by
  conv => rhs; unfold dedupTo
  rw [if_pos h]
theorem dedupTo_miss (S : List Int) (k : Nat) (h : ¬ (k = 0 ∨ S.getD k 0 ≠ S.getD (k - 1) 0)) : dedupTo S k = dedupTo S (k + 1) := by
  conv => rhs; unfold dedupTo
  rw [if_neg h]

set_option maxHeartbeats 8000000 in
theorem EncodeDict_yes (xs : List Int) (a : Option Addr) (c : Nat) (w : World) (h : Hid (IntsAt w a xs)) (hl : ¬ 65536 < (xs.length : Int)) :
    Calls Yabn.prog 92 #[.slice a xs.length c] w (RetC 27 (encD xs) w) := by
  have hnew := hide (Blk.new w #[.int .i64 0, .slice none 0 0, .slice none 0 0, .slice none 0 0, .slice none 0 0] 29)
  go_enter Yabn.func92, Yabn.ntmps92
  go_wp2_with fail
  refine (sortInt64 xs a c _ (h.out.ext ((Ext.refl w).alloc _)) (by omega)).mono ?_
  rintro e W ⟨S, asl, csl, rfl, oS, hso, x1⟩
  have hbW := hide (hnew.out.ext x1)
  have xW : Hid (Ext w W) := ((Ext.refl w).alloc _).trans x1
  have zW : w.heap.size < W.heap.size := hbW.out.lt
  have iS := hide oS.ints
  have hSl : Hid (S.length = xs.length) := hso.len
  replace hso := hide hso
  clear oS x1 hnew
  go_wp2_with fail
  go_loopw [4, 5] (fun v i wr => ∃ k : Nat, i = .int .i64 k ∧ k ≤ xs.length ∧ Hid (OwnI wr W.heap.size 2 v (dedupTo S k)) ∧ Hid (Ext W wr)) (fun _ i _ => xs.length - (intOf i).toNat)
  case atStart => exact ⟨0, rfl, by omega, OwnI.nil _ _ _, Ext.refl W⟩
  obtain ⟨k, rfl, hk, hown, hext⟩ := hrel
  have hWs := hext.out.size
  by_cases hlt : k < xs.length
  · have hlt' : (k : Int) < xs.length := by omega
    obtain ⟨b, off, rfl, g1⟩ := (iS.out.ext hext.out) k (by rw [hSl.out]; exact hlt)
    have hln : (dedupTo S k).length < 2 ^ 39 := by have := dedupTo_len S k; omega
    have hb1 := cell_lt g1
    simp only at hb1
    replace hln := hide hln
    by_cases h0 : k = 0
    · subst h0
      have hdd := hide (dedupTo_hit S 0 (.inl rfl))
      generalize S.getD 0 0 = y at *
      generalize dedupTo S 0 = ps at *
      simp only [Nat.add_zero] at g1
      as_aux_lemma =>
        go_wp2
        refine Dr.region_text (by kernel_rfl) ?_
        go_wp2
        refine ⟨by rfl, ?_⟩
        go_wp2_with (at_builtin; refine app_i64 rfl rfl W.heap.size (by simp; omega) _ ps y rfl ((OwnI.drew hown.out).alloc _) wr.heap.size 1 (by rfl) (heap_alloc_new wr.drew _) hln.out ?_; intro g cap w2 hown2 hgr hor hlt2; replace hgr := hide hgr; replace hown2 := hide hown2; replace hor := hide hor)
        go_roundw
        case rel =>
          refine ⟨1, by go_num, by omega, hown2.out.congr hdd.out, (hext.out.drew.alloc _).grown hgr.out ?_⟩
          intro q hq; exact hown.out.block q hq
        case measure => simp [intOf]; omega
    · obtain ⟨m, rfl⟩ : ∃ m, k = m + 1 := ⟨k - 1, by omega⟩
      have g2 := (iS.out.ext hext.out).at m (by rw [hSl.out]; omega)
      have hd0 : (((m + 1 : Nat) : Int) == 0) = false := by simp; omega
      have hmi : (m : Int) < xs.length := by omega
      by_cases hne : S.getD (m + 1) 0 = S.getD m 0
      · have hdd := hide (dedupTo_miss S (m + 1) (by simp only [Nat.add_sub_cancel]; rintro (hh | hh); omega; exact hh hne))
        rw [hne] at g1
        generalize S.getD m 0 = y at *
        generalize dedupTo S (m + 1) = ps at *
        clear hne
        as_aux_lemma =>
          go_wp2
          refine Dr.region_text (by kernel_rfl) ?_
          go_wp2
          refine ⟨by rfl, ?_⟩
          go_wp2
          go_roundw
          case rel => exact ⟨m + 1 + 1, by go_num, by omega, hown.out.drew.congr hdd.out, hext.out.drew⟩
          case measure => simp [intOf]; omega
      · have hdd := hide (dedupTo_hit S (m + 1) (.inr hne))
        generalize S.getD (m + 1) 0 = y at *
        generalize S.getD m 0 = y2 at *
        generalize dedupTo S (m + 1) = ps at *
        have hneb : (y != y2) = true := by simpa using hne
        have hneb2 : (y == y2) = false := by simpa using hne
        clear hne
        as_aux_lemma =>
          go_wp2
          refine Dr.region_text (by kernel_rfl) ?_
          go_wp2
          refine ⟨by rfl, ?_⟩
          go_wp2_with (at_builtin; refine app_i64 rfl rfl W.heap.size (by simp; omega) _ ps y rfl ((OwnI.drew hown.out).alloc _) wr.heap.size 1 (by rfl) (heap_alloc_new wr.drew _) hln.out ?_; intro g cap w2 hown2 hgr hor hlt2; replace hgr := hide hgr; replace hown2 := hide hown2; replace hor := hide hor)
          go_roundw
          case rel =>
            refine ⟨m + 1 + 1, by go_num, by omega, hown2.out.congr hdd.out, (hext.out.drew.alloc _).grown hgr.out ?_⟩
            intro q hq; exact hown.out.block q hq
          case measure => simp [intOf]; omega
  obtain rfl : k = xs.length := by omega
  have hD0 := dedup_dict hso.out
  rw [hSl.out] at hD0
  rw [hD0] at hown
  clear hD0 hlt hk iS hso hSl
  have hup := (dictOf_spec xs).1
  have hmemD := (dictOf_spec xs).2
  have hDl := dictOf_len xs
  have hcE : Hid (encD xs = ⟨1, [], dictOf xs, xs.map (idx (dictOf xs)), []⟩) := rfl
  generalize hD : dictOf xs = D at *
  replace hD := hide hD
  replace hup := hide hup
  replace hmemD := hide hmemD
  obtain ⟨ad, cd, rfl, _⟩ := hown.out.form
  have hDi : (D.length : Int) ≤ 65536 := by omega
  obtain ⟨W2, rfl⟩ : ∃ W2, W2 = wr := ⟨_, rfl⟩
  have hbW2 := hide (hbW.out.ext hext.out)
  have xW2 : Hid (Ext w W2) := xW.out.trans hext.out
  clear hbW xW hext
  by_cases h0 : xs.length = 0
  · obtain rfl : xs = [] := List.eq_nil_of_length_eq_zero h0
    obtain rfl : D = [] := List.eq_nil_of_length_eq_zero (by simpa using hDl)
    simp only [List.length_nil, List.map_nil] at *
    clear h0 hDi hDl hl hup hmemD hD h
    go_wp2
    go_loopw [7] (fun i wr => i = .int .i64 0 ∧ Hid (Ext W2 wr)) (fun _ _ => 0)
    case atStart => exact ⟨rfl, Ext.refl W2⟩
    obtain ⟨rfl, hext⟩ := hrel
    have hbox2 := hide (hbW2.out.ext hext.out)
    go_wp2_with (refine wpList_storeB (vs := [.int .i64 1, .slice none 0 0, .slice ad 0 cd, .slice none 0 0, .slice none 0 0]) rfl rfl (by rfl) (by rfl) hbox2.out size_col rfl (by simp [Value.oneCell']) ?_; intro w2 hb2 hgr; replace hgr := hide hgr; replace hb2 := hide hb2)
    refine bodyPost_ret (results_cell1 rfl (by rfl) hb2.out Yabn.underlying29 size_col) rfl ?_
    have hx2 : Ext w w2 := (xW2.out.trans hext.out).grown hgr.out (by intro k hk; cases hk; exact Nat.le_refl _)
    have ho2 := (hown.out.ext hext.out).kept hgr.out zW
    exact ⟨none, ad, none, none, 0, cd, 0, 0, rfl, OwnC.make (OwnI.nil _ _ _) (ho2.mono (by omega)) (OwnI.nil _ _ _) (OwnP.nil _ _ _) (apart_nil _ _ _) (Nat.le_refl _), hx2⟩
  · have h0' : (0 : Int) < xs.length := by omega
    go_wp2_with (at_make; refine mk_int rfl rfl xs.length rfl rfl (by omega) W2.heap.size rfl ?_; intro w3 hown3 hx3 hsz3; replace hown3 := hide hown3; replace hx3 := hide hx3)
    have hcl : (xs.map (idx D)).length = xs.length := by simp
    go_loopw [7] (fun i wr => ∃ k : Nat, i = .int .i64 k ∧ k ≤ xs.length ∧ Hid (OwnI wr W2.heap.size 3 (.slice (some ⟨W2.heap.size, 0, none⟩) xs.length xs.length) (fillTo (xs.map (idx D)) xs.length k)) ∧ Hid (Ext W2 wr)) (fun i _ => xs.length - (intOf i).toNat)
    case atStart => exact ⟨0, rfl, by omega, by rw [fillTo_zero]; exact hown3, hx3⟩
    clear hown3 hx3 hsz3
    obtain ⟨k, rfl, hk, hownc, hext2⟩ := hrel
    obtain ⟨W3, rfl⟩ : ∃ W3, W3 = wr := ⟨_, rfl⟩
    by_cases hlt : k < xs.length
    · have hlt' : (k : Int) < xs.length := by omega
      obtain ⟨b, off, rfl, g1⟩ := (h.out.ext (xW2.out.trans hext2.out)) k hlt
      have hset := fillTo_set (xs.map (idx D)) xs.length k hcl hlt
      have hlen := length_fillTo (xs.map (idx D)) xs.length k hcl hk
      have hmem : xs.getD k 0 ∈ D := (hmemD.out _).2 (mem_of_getD hlt)
      obtain ⟨t, ht, hte⟩ := exists_at hmem
      have hidx := idx_eq hup.out ht hte
      have hxk : (xs.map (idx D)).getD k 0 = t := by
        rw [← hidx]
        simp [List.getD_eq_getElem?_getD, List.getElem?_eq_getElem hlt]
      rw [hxk] at hset
      have hst : Hid (∀ wr, OwnI wr W2.heap.size 3 (.slice (some ⟨W2.heap.size, 0, none⟩) xs.length xs.length) (fillTo (xs.map (idx D)) xs.length k) → OwnI (wr.setCell ⟨W2.heap.size, k, none⟩ (.int .i64 t)) W2.heap.size 3 (.slice (some ⟨W2.heap.size, 0, none⟩) xs.length xs.length) (fillTo (xs.map (idx D)) xs.length (k + 1))) := fun wr ho => (OwnI.stored ho hlen.symm k (t : Int)).congr hset
      have fk := OwnI.frozenAt hownc.out hlen.symm k
      have gk := OwnI.cellAt hownc.out k (by omega)
      have hgl := (OwnI.lt hownc.out).2
      generalize (fillTo (xs.map (idx D)) xs.length k).getD k 0 = zk at gk
      generalize xs.getD k 0 = y at *
      replace hte := hide hte
      have hti : (t : Int) < D.length := by omega
      clear hmem hidx hset hlen hxk
      go_wp2
      go_loopw [8, 9] (fun l r wr => ∃ (lo hi : Nat), l = .int .i64 lo ∧ r = .int .i64 hi ∧ lo ≤ t ∧ t ≤ hi ∧ hi < D.length ∧ Hid (Ext W3 wr)) (fun l r _ => (intOf r - intOf l).toNat)
      case atStart => exact ⟨0, D.length - 1, rfl, by go_num, by omega, by omega, by omega, Ext.refl W3⟩
      obtain ⟨lo, hi, rfl, rfl, hlo, hhi, hhl, hext3⟩ := hrel
      by_cases hlh : lo < hi
      · have hlh' : (lo : Int) < hi := by omega
        obtain ⟨mid, hmide, hml, hmh⟩ : ∃ mid : Nat, (mid : Int) = ((lo : Int) + hi) / 2 ∧ lo ≤ mid ∧ mid < hi := ⟨(lo + hi) / 2, by omega, by omega, by omega⟩
        obtain ⟨b2, off2, rfl, g2⟩ := ((OwnI.ints hown.out).ext (hext2.out.trans hext3.out)) mid (by omega)
        have g3 := hext3.out.cell g1
        have hlt3 : D.getD mid 0 < y ↔ mid < t := by rw [← hte.out]; exact up_lt_of hup.out (by omega) ht
        generalize D.getD mid 0 = z at *
        have hmi : (mid : Int) < D.length := by omega
        replace hmide := hide hmide
        replace hlt3 := hide hlt3
        go_wp2
        rw [← hmide.out]
        by_cases hz : z < y
        · have hmt2 := hlt3.out.1 hz
          have hzb : decide (z < y) = true := by simpa using hz
          clear hlt3 hmide
          as_aux_lemma =>
            refine Dr.region_text (by kernel_rfl) ?_
            go_wp2
            refine ⟨by rfl, ?_⟩
            go_wp2
            go_roundw
            case rel => exact ⟨mid + 1, hi, by go_num, rfl, by omega, by omega, by omega, hext3.out.drew⟩
            case measure => simp [intOf]; omega
        · have hzb : decide (z < y) = false := by simpa using hz
          have hmt2 : t ≤ mid := by have : ¬ mid < t := fun e => hz (hlt3.out.2 e); omega
          clear hlt3 hmide
          as_aux_lemma =>
            refine Dr.region_text (by kernel_rfl) ?_
            go_wp2
            refine ⟨by rfl, ?_⟩
            go_wp2
            go_roundw
            case rel => exact ⟨lo, mid, rfl, by go_num, by omega, by omega, by omega, hext3.out.drew⟩
            case measure => simp [intOf]; omega
      · have hlt9 : t = lo ∧ hi = lo := ⟨by omega, by omega⟩
        clear hlh hlo hhi
        obtain ⟨rfl, rfl⟩ := hlt9
        have fk3 : wr.frozen? ⟨W2.heap.size, k, none⟩ = false := by
          rw [World.frozen?_of_block (hext3.out.block W2.heap.size hgl)]
          exact fk
        have gk3 := hext3.out.cell gk
        as_aux_lemma =>
          go_wp2
          go_roundw
          case rel => exact ⟨k + 1, by go_num, by omega, hst.out wr (hownc.out.ext hext3.out), (hext2.out.trans hext3.out).setCell (Nat.le_refl _) _⟩
          case measure => simp [intOf]; omega
    · obtain rfl : k = xs.length := by omega
      rw [fillTo_all _ _ hcl] at hownc
      have hbox2 := hide (hbW2.out.ext hext2.out)
      have hz2 : W.heap.size ≤ W2.heap.size := hWs
      clear hlt hk
      replace hcl := hide hcl
      go_wp2_with (refine wpList_storeB (vs := [.int .i64 1, .slice none 0 0, .slice ad D.length cd, .slice (some ⟨W2.heap.size, 0, none⟩) xs.length xs.length, .slice none 0 0]) rfl rfl (by rfl) (by rfl) hbox2.out size_col rfl (by simp [Value.oneCell']) ?_; intro w2 hb2 hgr; replace hgr := hide hgr; replace hb2 := hide hb2)
      refine bodyPost_ret (results_cell1 rfl (by rfl) hb2.out Yabn.underlying29 size_col) rfl ?_
      have hx2 : Ext w w2 := (xW2.out.trans hext2.out).grown hgr.out (by intro k hk; cases hk; exact Nat.le_refl _)
      have ho2 := (hown.out.ext hext2.out).kept hgr.out zW
      have ho3 := hownc.out.kept hgr.out (by omega)
      rw [hcE.out]
      refine ⟨none, ad, some ⟨W2.heap.size, 0, none⟩, none, 0, cd, xs.length, 0, by simp [cellsC], OwnC.make (OwnI.nil _ _ _) (ho2.mono (by omega)) ?_ (OwnP.nil _ _ _) (apart_nil _ _ _) (Nat.le_refl _), hx2⟩
      show OwnI w2 w.heap.size _ (.slice (some ⟨W2.heap.size, 0, none⟩) (xs.map (idx D)).length xs.length) (xs.map (idx D))
      rw [hcl.out]
      exact ho3.mono (by omega)

theorem EncodePlain (xs : List Int) (a : Option Addr) (c : Nat) (w : World) (h : Hid (IntsAt w a xs)) : Calls Yabn.prog 91 #[.slice a xs.length c] w (RetC 27 (encOf 0 xs) w) := by
  unfold encOf
  by_cases hl : 65536 < xs.length
  · rw [if_pos hl]; exact EncodePlain_no xs a c w (by omega)
  · rw [if_neg hl]; exact EncodePlain_yes xs a c w h (by omega)
theorem EncodeDict (xs : List Int) (a : Option Addr) (c : Nat) (w : World) (h : Hid (IntsAt w a xs)) : Calls Yabn.prog 92 #[.slice a xs.length c] w (RetC 27 (encOf 1 xs) w) := by
  unfold encOf
  by_cases hl : 65536 < xs.length
  · rw [if_pos hl]; exact EncodeDict_no xs a c w (by omega)
  · rw [if_neg hl]; exact EncodeDict_yes xs a c w h (by omega)
theorem EncodeRLE (xs : List Int) (a : Option Addr) (c : Nat) (w : World) (h : Hid (IntsAt w a xs)) : Calls Yabn.prog 93 #[.slice a xs.length c] w (RetC 27 (encOf 2 xs) w) := by
  unfold encOf
  by_cases hl : 65536 < xs.length
  · rw [if_pos hl]; exact EncodeRLE_no xs a c w (by omega)
  · rw [if_neg hl]; exact EncodeRLE_yes xs a c w h (by omega)
end Go.Proofs.Ybyabw
