/- Walks: impl.ValidTable, spec.RefValidTable -/
import Derived.Test.YbyabwGreatCol5
namespace Go.Proofs.YbyabwGreat
open Go.RowKit
set_option maxRecDepth 100000
set_option linter.unusedVariables false

def col0 : Col := ⟨0, [], [], [], []⟩

/-- A slice of columns as it is read. -/
def ColsAt (w : World) (a : Option Addr) (cs : List Col) : Prop := ∀ i, i < cs.length → ∃ b off a1 a2 a3 a4 c1 c2 c3 c4, a = some ⟨b, off, none⟩ ∧
  (w.cell? ⟨b, off + i * 5, none⟩ = some (.int .i64 (cs.getD i col0).kind) ∧ w.cell? ⟨b, off + i * 5 + 1, none⟩ = some (.slice a1 (cs.getD i col0).plain.length c1) ∧ w.cell? ⟨b, off + i * 5 + 2, none⟩ = some (.slice a2 (cs.getD i col0).dict.length c2) ∧
   w.cell? ⟨b, off + i * 5 + 3, none⟩ = some (.slice a3 (cs.getD i col0).codes.length c3) ∧ w.cell? ⟨b, off + i * 5 + 4, none⟩ = some (.slice a4 (cs.getD i col0).runs.length c4)) ∧
  ColAt w (cs.getD i col0) a1 a2 a3 a4 ∧ ColLen (cs.getD i col0)

theorem ColsAt.ext {w w' : World} {a : Option Addr} {cs : List Col} (h : ColsAt w a cs) (he : Ext w w') : ColsAt w' a cs := by
  intro i hi
  obtain ⟨b, off, a1, a2, a3, a4, c1, c2, c3, c4, e, ⟨h0, h1, h2, h3, h4⟩, hc, hl⟩ := h i hi
  exact ⟨b, off, a1, a2, a3, a4, c1, c2, c3, c4, e, ⟨he.cell h0, he.cell h1, he.cell h2, he.cell h3, he.cell h4⟩, hc.ext he, hl⟩

def ValidT (cs : List Col) (n : Int) : Prop := 0 ≤ n ∧ n ≤ 65536 ∧ cs.length ≤ 256 ∧ ∀ i, i < cs.length → Valid (cs.getD i col0) n

set_option maxHeartbeats 1000000 in
theorem ValidTable (cs : List Col) (n : Int) (a : Option Addr) (cap : Nat) (w : World) (h : ColsAt w a cs) (hlc : cs.length < 2 ^ 40) :
    Calls Yabn.prog 16 #[.agg #[.int .i64 n, .slice a cs.length cap]] w (RetBool (ValidT cs n) w) := by
  have hv : ValidT cs n ↔ 0 ≤ n ∧ n ≤ 65536 ∧ cs.length ≤ 256 ∧ ∀ i, i < cs.length → Valid (cs.getD i col0) n := Iff.rfl
  generalize ValidT cs n = V at *
  replace hv := hide hv
  replace h := hide h
  by_cases hn0 : n < 0
  · go_enter Yabn.func16, Yabn.ntmps16
    go_wp2
    go_ret; exact RetBool.no (by rw [hv.out]; omega) ((Ext.refl w).alloc _)
  by_cases hn1 : 65536 < n
  · go_enter Yabn.func16, Yabn.ntmps16
    go_wp2
    go_ret; exact RetBool.no (by rw [hv.out]; omega) ((Ext.refl w).alloc _)
  by_cases hc1 : 256 < (cs.length : Int)
  · go_enter Yabn.func16, Yabn.ntmps16
    go_wp2
    go_ret; exact RetBool.no (by rw [hv.out]; omega) ((Ext.refl w).alloc _)
  go_enter Yabn.func16, Yabn.ntmps16
  go_wp2
  go_loopw [22] (fun i wr => ∃ k : Nat, i = .int .i64 k ∧ k ≤ cs.length ∧ Hid (∀ j, j < k → Valid (cs.getD j col0) n) ∧ Hid (Ext w wr) ∧ Hid (Box wr w.heap.size [.int .i64 n, .slice a cs.length cap])) (fun i _ => cs.length - (intOf i).toNat)
  case atStart => exact ⟨0, rfl, by omega, fun j hj => by omega, (Ext.refl w).alloc _, Box.new w _ _⟩
  obtain ⟨k, rfl, hk, hinv, hext, hbox⟩ := hrel
  have f0 := hbox.out 0 _ rfl
  have f1 := hbox.out 1 _ rfl
  by_cases hlt : k < cs.length
  · have hlt' : (k : Int) < cs.length := by omega
    obtain ⟨b, off, a1, a2, a3, a4, c1, c2, c3, c4, rfl, ⟨g0, g1, g2, g3, g4⟩, hc, hl⟩ := (h.out.ext hext.out) k hlt
    have hno : ¬ Valid (cs.getD k col0) n → ¬ V := by intro hh; rw [hv.out]; exact fun h' => hh (h'.2.2.2 k hlt)
    have hyes : Valid (cs.getD k col0) n → ∀ j, j < k + 1 → Valid (cs.getD j col0) n := by
      intro hh j hj
      by_cases hjk : j < k
      · exact hinv.out j hjk
      · have : j = k := by omega
        subst this
        exact hh
    generalize cs.getD k col0 = c at *
    obtain ⟨kind, pl, di, co, ru⟩ := c
    simp only at g0 g1 g2 g3 g4
    have l2 := hl.dict
    have l3 := hl.codes
    have l4 := hl.runs
    have hb := cell_lt g0
    have hb0 := cell_lt f0
    simp only at l2 l3 l4 hb hb0
    replace hc := hide hc
    replace hno := hide hno
    replace hyes := hide hyes
    clear hl
    by_cases hV : Valid ⟨kind, pl, di, co, ru⟩ n
    · replace hV := hide hV
      go_wp2_with (go_at_call 33; refine (validCol kind pl di co ru a1 a2 a3 a4 c1 c2 c3 c4 n _ (hc.out.ext ((Ext.refl wr).alloc _)) l2 l3 l4).mono ?_; rintro e w1 ⟨q, rfl, hq, hx⟩; have hq' : q = true := hq.2 hV.out; subst hq'; clear hq; replace hx := hide hx)
      go_roundw
      case rel => exact ⟨k + 1, by go_num, by omega, hyes.out hV.out, (hext.out.alloc _).trans hx.out, (hbox.out.alloc _).ext hx.out⟩
      case measure => simp [intOf]; omega
    · replace hV := hide hV
      go_wp2_with (go_at_call 33; refine (validCol kind pl di co ru a1 a2 a3 a4 c1 c2 c3 c4 n _ (hc.out.ext ((Ext.refl wr).alloc _)) l2 l3 l4).mono ?_; rintro e w1 ⟨q, rfl, hq, hx⟩; have hq' : q = false := (by cases q with | false => rfl | true => exact absurd (hq.1 rfl) hV.out); subst hq'; clear hq; replace hx := hide hx)
      go_ret
      exact RetBool.no (hno.out hV.out) ((hext.out.alloc _).trans hx.out)
  · go_wp2
    go_ret
    exact RetBool.yes (by rw [hv.out]; exact ⟨by omega, by omega, by omega, fun i hi => hinv.out i (by omega)⟩) hext

set_option maxHeartbeats 1000000 in
theorem RefValidTable (cs : List Col) (n : Int) (a : Option Addr) (cap : Nat) (w : World) (h : ColsAt w a cs) (hlc : cs.length < 2 ^ 40) :
    Calls Yabn.prog 20 #[.agg #[.int .i64 n, .slice a cs.length cap]] w (RetBool (ValidT cs n) w) := by
  have hv : ValidT cs n ↔ 0 ≤ n ∧ n ≤ 65536 ∧ cs.length ≤ 256 ∧ ∀ i, i < cs.length → Valid (cs.getD i col0) n := Iff.rfl
  generalize ValidT cs n = V at *
  replace hv := hide hv
  replace h := hide h
  by_cases hn0 : n < 0
  · go_enter Yabn.func20, Yabn.ntmps20
    go_wp2
    go_ret; exact RetBool.no (by rw [hv.out]; omega) ((Ext.refl w).alloc _)
  by_cases hn1 : 65536 < n
  · go_enter Yabn.func20, Yabn.ntmps20
    go_wp2
    go_ret; exact RetBool.no (by rw [hv.out]; omega) ((Ext.refl w).alloc _)
  by_cases hc1 : 256 < (cs.length : Int)
  · go_enter Yabn.func20, Yabn.ntmps20
    go_wp2
    go_ret; exact RetBool.no (by rw [hv.out]; omega) ((Ext.refl w).alloc _)
  go_enter Yabn.func20, Yabn.ntmps20
  go_wp2
  go_loopw [3] (fun i wr => ∃ k : Nat, i = .int .i64 k ∧ k ≤ cs.length ∧ Hid (∀ j, j < k → Valid (cs.getD j col0) n) ∧ Hid (Ext w wr) ∧ Hid (Box wr w.heap.size [.int .i64 n, .slice a cs.length cap])) (fun i _ => cs.length - (intOf i).toNat)
  case atStart => exact ⟨0, rfl, by omega, fun j hj => by omega, (Ext.refl w).alloc _, Box.new w _ _⟩
  obtain ⟨k, rfl, hk, hinv, hext, hbox⟩ := hrel
  have f0 := hbox.out 0 _ rfl
  have f1 := hbox.out 1 _ rfl
  by_cases hlt : k < cs.length
  · have hlt' : (k : Int) < cs.length := by omega
    obtain ⟨b, off, a1, a2, a3, a4, c1, c2, c3, c4, rfl, ⟨g0, g1, g2, g3, g4⟩, hc, hl⟩ := (h.out.ext hext.out) k hlt
    have hno : ¬ Valid (cs.getD k col0) n → ¬ V := by intro hh; rw [hv.out]; exact fun h' => hh (h'.2.2.2 k hlt)
    have hyes : Valid (cs.getD k col0) n → ∀ j, j < k + 1 → Valid (cs.getD j col0) n := by
      intro hh j hj
      by_cases hjk : j < k
      · exact hinv.out j hjk
      · have : j = k := by omega
        subst this
        exact hh
    generalize cs.getD k col0 = c at *
    obtain ⟨kind, pl, di, co, ru⟩ := c
    simp only at g0 g1 g2 g3 g4
    have l2 := hl.dict
    have l3 := hl.codes
    have l4 := hl.runs
    have hb := cell_lt g0
    have hb0 := cell_lt f0
    simp only at l2 l3 l4 hb hb0
    replace hc := hide hc
    replace hno := hide hno
    replace hyes := hide hyes
    clear hl
    by_cases hV : Valid ⟨kind, pl, di, co, ru⟩ n
    · replace hV := hide hV
      go_wp2
      refine Dr.region_text (by kernel_rfl) ?_
      go_wp2_with (go_at_call 52; refine (RefDecodeColumn_yes kind n pl di co ru a1 a2 a3 a4 c1 c2 c3 c4 _ (hc.out.ext (Ext.refl wr).drew) l2 l3 l4 hV.out).mono ?_; rintro e w1 ⟨ar, capr, rfl, hown, hx⟩; clear hown; replace hx := hide hx)
      refine ⟨by rfl, ?_⟩
      go_wp2
      go_roundw
      case rel => exact ⟨k + 1, by go_num, by omega, hyes.out hV.out, hext.out.drew.trans hx.out, (Box.drew hbox.out).ext hx.out⟩
      case measure => simp [intOf]; omega
    · replace hV := hide hV
      go_wp2
      refine Dr.region_text (by kernel_rfl) ?_
      go_wp2_with (go_at_call 52; refine (RefDecodeColumn_no kind n pl di co ru a1 a2 a3 a4 c1 c2 c3 c4 _ (hc.out.ext (Ext.refl wr).drew) l2 l3 l4 hV.out).mono ?_; rintro e w1 ⟨rfl, hx⟩; replace hx := hide hx)
      refine ⟨by rfl, ?_⟩
      go_wp2
      go_ret
      exact RetBool.no (hno.out hV.out) (hext.out.drew.trans hx.out)
  · go_wp2
    go_ret
    exact RetBool.yes (by rw [hv.out]; exact ⟨by omega, by omega, by omega, fun i hi => hinv.out i (by omega)⟩) hext

end Go.Proofs.YbyabwGreat
