/- Rows of bools; walks: impl.itemsOK, groupOK, aggWanted, useOnce -/
import Derived.Test.YbyabwGreatCmpP3
import Derived.Test.YbyabwGreatFrame
namespace Go.Proofs.YbyabwGreat
open Go.RowKit
set_option maxRecDepth 100000
set_option linter.unusedVariables false
set_option linter.unusedSimpArgs false

/-- A row of bools of the call's own. -/
def OwnZ (w : World) (base : Nat) (v : Value) (xs : List Bool) : Prop := w.ownsRow base 4 1 v xs.length (xs.map Value.bool)
section
variable {w w' : World} {base base' g n cap : Nat} {v : Value} {xs ys : List Bool}
theorem OwnZ.ext (h : OwnZ w base v xs) (he : Ext w w') : OwnZ w' base v xs := ownsRow_ext h he
theorem OwnZ.alloc (h : OwnZ w base v xs) (o : Obj) : OwnZ (w.alloc o) base v xs := World.ownsRow.alloc h o
theorem OwnZ.mono (h : OwnZ w base v xs) (hb : base' ≤ base) : OwnZ w base' v xs := ownsRow_mono h hb
theorem OwnZ.congr (h : OwnZ w base v xs) (he : xs = ys) : OwnZ w base v ys := he ▸ h
theorem OwnZ.lt (h : OwnZ w base (.slice (some ⟨g, 0, none⟩) n cap) xs) : base ≤ g ∧ g < w.heap.size := World.ownsRow.lt h g rfl
theorem OwnZ.len {a : Option Addr} (h : OwnZ w base (.slice a n cap) xs) : n = xs.length := by
  rcases h.2 with ⟨e, h0⟩ | ⟨g, cap, cur, e, _⟩
  · cases e; exact h0.symm
  · cases e; rfl
theorem OwnZ.stored (h : OwnZ w base (.slice (some ⟨g, 0, none⟩) n cap) xs) (j : Nat) (u : Bool) : OwnZ (w.setCell ⟨g, j, none⟩ (.bool u)) base (.slice (some ⟨g, 0, none⟩) n cap) (xs.set j u) := by
  have hn := h.len
  subst hn
  have := (World.ownsRow.stored h j (.bool u)).1
  unfold OwnZ
  rw [List.map_set, List.length_set]
  exact this
theorem OwnZ.frozenAt (h : OwnZ w base (.slice (some ⟨g, 0, none⟩) n cap) xs) (j : Nat) : w.frozen? ⟨g, j, none⟩ = false := by
  have hn := h.len
  subst hn
  exact World.ownsRow.frozenAt h j
theorem OwnZ.cellAt (h : OwnZ w base (.slice (some ⟨g, 0, none⟩) n cap) xs) (j : Nat) (hj : j < xs.length) : w.cell? ⟨g, j, none⟩ = some (.bool (xs.getD j false)) := by
  have hn := h.len
  subst hn
  rw [World.ownsRow.cellAt h j (by omega)]
  simp [List.getElem?_eq_getElem hj]
theorem OwnZ.butS {S : Nat → Prop} (h : OwnZ w base v xs) (hb : But S w w') (hn : ∀ k, v.ownBlock = some k → ¬ S k) : OwnZ w' base v xs := hb.row h hn
end
theorem info_bool : (Yabn.prog.info? 4).map (fun i => (i.zero, i.size, i.bytes)) = some (some (.bool false), 1, 1) := by kernel_rfl
section
variable {ops : Array Oper} {rest : List Oper} {o : Oper} {a : Act} {Q : Exit → Act → World → Prop} {w : World}
theorem made_bools (n : Nat) : (madeCells (Value.bool false).cells n).toList = (List.replicate n false).map Value.bool := by
  apply List.ext_getElem
  · simp [madeCells]
  · intro i h1 h2
    simp [madeCells, Value.cells, Nat.mod_one]
/-- make([]bool, n) -/
theorem mk_bool (hg : o.guard = none) {l c : Operand} (hop : o.op = Op.makeSlice 100 l c)
    (n : Nat) (hl : a.eval l = .int .i64 n) (hc : a.eval c = .int .i64 n) (hb : n < 2 ^ 40) (N : Nat) (hN : w.heap.size = N)
    (hK : ∀ w', OwnZ w' N (.slice (some ⟨N, 0, none⟩) n n) (List.replicate n false) → Ext w w' → w'.heap.size = N + 1 → wpList Yabn.prog ops Q rest (a.put o.dst (.slice (some ⟨N, 0, none⟩) n n)) w') :
    wpList Yabn.prog ops Q (o :: rest) a w := by
  obtain ⟨i, h2, h3, h4, h5⟩ := info_parts info_bool
  subst hN
  refine wpList_plain hg fun K hK' => ?_
  have hrun := run_make (P := Yabn.prog) w 100 4 i (.bool false) Yabn.underlying100 h2 h3 .i64 .i64 n n (by omega) (by omega) (by rw [h5]; omega) (by omega)
  have hown : (w.alloc (.cells (madeCells (Value.bool false).cells (n * i.size)) 4)).ownsRow w.heap.size 4 1 (.slice (some ⟨w.heap.size, 0, none⟩) n n) n (madeCells (Value.bool false).cells (n * i.size)).toList :=
    World.ownsRow_lit w _ n (Nat.le_refl _) (by unfold maxLen; omega) (by rw [size_madeCells, h4])
  unfold Oper.wp
  simp [execOp, hop, hl, hc, hrun, Result.andThen]
  refine hK' _ _ (hK _ ?_ ((Ext.refl w).alloc _) (by simp))
  unfold OwnZ
  rw [← made_bools]
  simpa [h4] using hown
end

def ItsOK (n : Int) (its : List (Int × Int)) : Prop := ∀ it ∈ its, ItOK n it
set_option maxHeartbeats 4000000 in
theorem itemsOK (its : List (Int × Int)) (a : Option Addr) (c : Nat) (n : Int) (w : World) (h : Hid (PairsAt w a its)) (hl : its.length ≤ 65536) :
    Calls Yabn.prog 39 #[.slice a its.length c, .int .i64 n] w (RetBool (ItsOK n its) w) := by
  go_enter Yabn.func39, Yabn.ntmps39
  go_wp2
  go_loopw [9] (fun i wr => ∃ k : Nat, i = .int .i64 k ∧ k ≤ its.length ∧ Hid (∀ j, j < k → ItOK n (its.getD j (0, 0))) ∧ Hid (Ext w wr)) (fun i _ => its.length - (intOf i).toNat)
  case atStart => exact ⟨0, rfl, Nat.zero_le _, fun j hj => by omega, Ext.refl w⟩
  obtain ⟨k, rfl, hk, hpre, hext⟩ := hrel
  by_cases hlt : k < its.length
  · have hlt' : (k : Int) < its.length := by omega
    have hmem := hide (getD_mem_it its k hlt)
    have hnx : Hid (ItOK n (its.getD k (0, 0)) → ∀ j, j < k + 1 → ItOK n (its.getD j (0, 0))) := fun h1 j hj => by
      by_cases hjk : j < k
      · exact hpre.out j hjk
      · obtain rfl : j = k := by omega
        exact h1
    obtain ⟨b, off, rfl, c1, c2⟩ := (h.out.ext hext.out) k hlt
    obtain ⟨⟨g, y⟩, hgy⟩ : ∃ p, its.getD k (0, 0) = p := ⟨_, rfl⟩
    rw [hgy] at c1 c2 hmem hnx
    simp only at c1 c2
    clear hgy
    have hT : Hid (Blk (wr.alloc (.cells #[.int .i64 g, .int .i64 y] 89)) wr.heap.size 89 [.int .i64 g, .int .i64 y]) := Blk.new wr _ _
    have hx1 : Hid (Ext w (wr.alloc (.cells #[.int .i64 g, .int .i64 y] 89))) := hext.out.alloc _
    have t0 := hT.out.box 0 _ rfl
    have t1 := hT.out.box 1 _ rfl
    by_cases hg0 : g < 0
    · have hbad : Hid (¬ ItOK n (g, y)) := fun hh => by have := hh.1; simp only at this; omega
      go_wp2
      go_ret
      exact RetBool.no (fun hh => hbad.out (hh _ hmem.out)) hx1.out
    · by_cases hg5 : 5 < g
      · have hbad : Hid (¬ ItOK n (g, y)) := fun hh => by have := hh.2.1; simp only at this; omega
        go_wp2
        go_ret
        exact RetBool.no (fun hh => hbad.out (hh _ hmem.out)) hx1.out
      · by_cases he5 : g = 5
        · subst he5
          by_cases hy : y = -1
          · have hy' : (y != -1) = false := by rw [hy]; rfl
            have hnext := hide (hnx.out ⟨by simp, by simp, .inl ⟨rfl, hy⟩⟩)
            replace hy := hide hy
            go_wp2
            go_roundw
            case rel => exact ⟨k + 1, by go_num, by omega, hnext.out, hx1.out⟩
            case measure => simp [intOf]; omega
          · have hy' : (y != -1) = true := by simp [hy]
            have hbad : Hid (¬ ItOK n (5, y)) := fun hh => by rcases hh.2.2 with ⟨_, h2⟩ | ⟨h2, _⟩ <;> simp at h2; exact hy h2
            replace hy := hide hy
            go_wp2
            go_ret
            exact RetBool.no (fun hh => hbad.out (hh _ hmem.out)) hx1.out
        · have he5' : (g == 5) = false := by simp [he5]
          by_cases hy0 : y < 0
          · have hbad : Hid (¬ ItOK n (g, y)) := fun hh => by
              rcases hh.2.2 with ⟨h2, _⟩ | ⟨_, h2, _⟩ <;> simp only at h2
              · exact he5 h2
              · omega
            replace he5 := hide he5
            go_wp2
            go_ret
            exact RetBool.no (fun hh => hbad.out (hh _ hmem.out)) hx1.out
          · by_cases hyn : n ≤ y
            · have hbad : Hid (¬ ItOK n (g, y)) := fun hh => by
                rcases hh.2.2 with ⟨h2, _⟩ | ⟨_, _, h2⟩ <;> simp only at h2
                · exact he5 h2
                · omega
              replace he5 := hide he5
              go_wp2
              go_ret
              exact RetBool.no (fun hh => hbad.out (hh _ hmem.out)) hx1.out
            · have hnext := hide (hnx.out ⟨by simp only; omega, by simp only; omega, .inr ⟨he5, by simp only; omega, by simp only; omega⟩⟩)
              replace he5 := hide he5
              go_wp2
              go_roundw
              case rel => exact ⟨k + 1, by go_num, by omega, hnext.out, hx1.out⟩
              case measure => simp [intOf]; omega
  · have hlt' : ¬ (k : Int) < its.length := by omega
    have hall : Hid (ItsOK n its) := fun it hit => by
      obtain ⟨j, hj, rfl⟩ := mem_getD hit
      exact hpre.out j (by omega)
    go_wp2
    go_ret
    exact ⟨true, rfl, ⟨fun _ => hall.out, fun _ => rfl⟩, hext.out⟩
set_option maxHeartbeats 4000000 in
theorem groupOK (gr : List Int) (a : Option Addr) (c : Nat) (n : Int) (w : World) (h : Hid (IntsAt w a gr)) (hl : gr.length ≤ 131072) :
    Calls Yabn.prog 42 #[.slice a gr.length c, .int .i64 n] w (RetBool (GrP n gr) w) := by
  go_enter Yabn.func42, Yabn.ntmps42
  go_wp2
  go_loopw [9] (fun i wr => ∃ k : Nat, i = .int .i64 k ∧ k ≤ gr.length ∧ Hid (∀ j, j < k → 0 ≤ gr.getD j 0 ∧ gr.getD j 0 < n) ∧ Hid (Ext w wr)) (fun i _ => gr.length - (intOf i).toNat)
  case atStart => exact ⟨0, rfl, Nat.zero_le _, fun j hj => by omega, Ext.refl w⟩
  obtain ⟨k, rfl, hk, hpre, hext⟩ := hrel
  by_cases hlt : k < gr.length
  · have hlt' : (k : Int) < gr.length := by omega
    have hmem : Hid (gr.getD k 0 ∈ gr) := by show _ ∈ _; rw [List.getD_eq_getElem?_getD, List.getElem?_eq_getElem hlt]; exact List.getElem_mem hlt
    have hnx : Hid (0 ≤ gr.getD k 0 ∧ gr.getD k 0 < n → ∀ j, j < k + 1 → 0 ≤ gr.getD j 0 ∧ gr.getD j 0 < n) := fun h1 j hj => by
      by_cases hjk : j < k
      · exact hpre.out j hjk
      · obtain rfl : j = k := by omega
        exact h1
    obtain ⟨b, off, rfl, c1⟩ := (h.out.ext hext.out) k hlt
    obtain ⟨y, hy⟩ : ∃ y, gr.getD k 0 = y := ⟨_, rfl⟩
    rw [hy] at c1 hmem hnx
    clear hy
    by_cases hy0 : y < 0
    · have hbad : Hid (¬ (0 ≤ y ∧ y < n)) := fun hh => by omega
      go_wp2
      go_ret
      exact RetBool.no (fun hh => hbad.out (hh _ hmem.out)) hext.out
    · by_cases hyn : n ≤ y
      · have hbad : Hid (¬ (0 ≤ y ∧ y < n)) := fun hh => by omega
        go_wp2
        go_ret
        exact RetBool.no (fun hh => hbad.out (hh _ hmem.out)) hext.out
      · have hnext := hide (hnx.out ⟨by omega, by omega⟩)
        go_wp2
        go_roundw
        case rel => exact ⟨k + 1, by go_num, by omega, hnext.out, hext.out⟩
        case measure => simp [intOf]; omega
  · have hlt' : ¬ (k : Int) < gr.length := by omega
    have hall : Hid (GrP n gr) := fun g hg => by
      obtain ⟨j, hj, e⟩ := List.getElem_of_mem hg
      have := hpre.out j (by omega)
      rw [List.getD_eq_getElem?_getD, List.getElem?_eq_getElem hj] at this
      rw [← e]
      exact this
    go_wp2
    go_ret
    exact ⟨true, rfl, ⟨fun _ => hall.out, fun _ => rfl⟩, hext.out⟩
def RetBo (b : Bool) (w : World) : Ending → World → Prop := fun e w' => e = .returned (.bool b) ∧ Ext w w'
set_option maxHeartbeats 4000000 in
theorem aggWanted (its : List (Int × Int)) (gr : List Int) (a ga : Option Addr) (c gc : Nat) (w : World) (h : Hid (PairsAt w a its)) (hl : its.length ≤ 65536) (hg : gr.length ≤ 131072) :
    Calls Yabn.prog 43 #[.slice a its.length c, .slice ga gr.length gc] w (RetBo (aggW its gr) w) := by
  by_cases hg0 : 0 < gr.length
  · have hg0' : (0 : Int) < gr.length := by omega
    have hA : Hid (aggW its gr = true) := by show _ = _; unfold aggW; simp [hg0]
    go_enter Yabn.func43, Yabn.ntmps43
    go_wp2
    go_ret
    exact ⟨by rw [hA.out]; rfl, Ext.refl w⟩
  · have hg0' : ¬ (0 : Int) < gr.length := by omega
    have hA : Hid (aggW its gr = its.any (fun it => it.1 != 0)) := by show _ = _; unfold aggW; simp [hg0]
    replace hg0 := hide hg0
    go_enter Yabn.func43, Yabn.ntmps43
    go_wp2
    go_loopw [12] (fun i wr => ∃ k : Nat, i = .int .i64 k ∧ k ≤ its.length ∧ Hid (∀ j, j < k → (its.getD j (0, 0)).1 = 0) ∧ Hid (Ext w wr)) (fun i _ => its.length - (intOf i).toNat)
    case atStart => exact ⟨0, rfl, Nat.zero_le _, fun j hj => by omega, Ext.refl w⟩
    obtain ⟨k, rfl, hk, hpre, hext⟩ := hrel
    by_cases hlt : k < its.length
    · have hlt' : (k : Int) < its.length := by omega
      have hmem := hide (getD_mem_it its k hlt)
      have hnx : Hid ((its.getD k (0, 0)).1 = 0 → ∀ j, j < k + 1 → (its.getD j (0, 0)).1 = 0) := fun h1 j hj => by
        by_cases hjk : j < k
        · exact hpre.out j hjk
        · obtain rfl : j = k := by omega
          exact h1
      obtain ⟨b, off, rfl, c1, c2⟩ := (h.out.ext hext.out) k hlt
      obtain ⟨⟨g, y⟩, hgy⟩ : ∃ p, its.getD k (0, 0) = p := ⟨_, rfl⟩
      rw [hgy] at c1 c2 hmem hnx
      simp only at c1 c2 hnx
      clear hgy
      have hT : Hid (Blk (wr.alloc (.cells #[.int .i64 g, .int .i64 y] 89)) wr.heap.size 89 [.int .i64 g, .int .i64 y]) := Blk.new wr _ _
      have hx1 : Hid (Ext w (wr.alloc (.cells #[.int .i64 g, .int .i64 y] 89))) := hext.out.alloc _
      have t0 := hT.out.box 0 _ rfl
      by_cases hgz : g = 0
      · have hnext := hide (hnx.out hgz)
        have hgb : (g != 0) = false := by rw [hgz]; rfl
        replace hgz := hide hgz
        go_wp2
        go_roundw
        case rel => exact ⟨k + 1, by go_num, by omega, hnext.out, hx1.out⟩
        case measure => simp [intOf]; omega
      · have hgb : (g != 0) = true := by simp [hgz]
        have hA2 : Hid (aggW its gr = true) := by
          show _ = _
          rw [hA.out, List.any_eq_true]
          exact ⟨_, hmem.out, hgb⟩
        replace hgz := hide hgz
        go_wp2
        go_ret
        exact ⟨by rw [hA2.out]; rfl, hx1.out⟩
    · have hlt' : ¬ (k : Int) < its.length := by omega
      have hA2 : Hid (aggW its gr = false) := by
        show _ = _
        rw [hA.out, List.any_eq_false]
        intro it hit
        obtain ⟨j, hj, rfl⟩ := mem_getD hit
        rw [hpre.out j (by omega)]
        decide
      go_wp2
      go_ret
      exact ⟨by rw [hA2.out]; rfl, hext.out⟩
set_option maxHeartbeats 2000000 in
theorem useOnce_no (us : List Bool) (base g cap x : Nat) (w : World) (h : Hid (OwnZ w base (.slice (some ⟨g, 0, none⟩) us.length cap) us)) (hx : x < us.length) (hl : us.length ≤ 65536) (hu : us.getD x false = true) :
    Calls Yabn.prog 40 #[.slice (some ⟨g, 0, none⟩) us.length cap, .int .i64 x] w (fun e w' => e = .returned (.bool false) ∧ w' = w) := by
  have hx' : (x : Int) < us.length := by omega
  have c1 := h.out.cellAt x hx
  rw [hu] at c1
  go_enter Yabn.func40, Yabn.ntmps40
  go_wp2
  go_ret
  exact ⟨rfl, rfl⟩
set_option maxHeartbeats 2000000 in
theorem useOnce_yes (us : List Bool) (base g cap x : Nat) (w : World) (h : Hid (OwnZ w base (.slice (some ⟨g, 0, none⟩) us.length cap) us)) (hx : x < us.length) (hl : us.length ≤ 65536) (hu : us.getD x false = false) :
    Calls Yabn.prog 40 #[.slice (some ⟨g, 0, none⟩) us.length cap, .int .i64 x] w (fun e w' => e = .returned (.bool true) ∧ w' = w.setCell ⟨g, x, none⟩ (.bool true)) := by
  have hx' : (x : Int) < us.length := by omega
  have c1 := h.out.cellAt x hx
  have fz := h.out.frozenAt x
  rw [hu] at c1
  go_enter Yabn.func40, Yabn.ntmps40
  go_wp2
  go_ret
  exact ⟨rfl, rfl⟩
end Go.Proofs.YbyabwGreat
