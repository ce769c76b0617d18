/- Walk: impl.emitRoot -/
import Derived.Test.YbyabwGreatCmp3
namespace Go.Proofs.YbyabwGreat
open Go.RowKit
set_option maxRecDepth 100000
set_option linter.unusedVariables false
set_option linter.unusedSimpArgs false

theorem hc_row {nd : List Nd} {w : World} {base hb cap : Nat} (h : OwnZ w base (.slice (some ⟨hb, 0, none⟩) nd.length cap) (toL hcN nd nd.length)) (x : Nat) (hx : x < nd.length) : w.cell? ⟨hb, x, none⟩ = some (.bool (hcAt nd x)) := by
  have := h.cellAt x (by rw [toL_len]; exact hx)
  rw [toL_at false nd.length x hx] at this
  exact this
theorem ev_row {nd : List Nd} {zr : List Int} {w : World} {base vb cap : Nat} (h : OwnI w base 2 (.slice (some ⟨vb, 0, none⟩) nd.length cap) (evTo nd zr nd.length)) (x : Nat) (hx : x < nd.length) : w.cell? ⟨vb, x, none⟩ = some (.int .i64 (evX nd zr x)) := by
  have := h.cellAt x (by rw [evTo_len]; exact hx)
  rw [evTo_at nd zr nd.length x hx] at this
  exact this
theorem OwnF.fr {w w' : World} {base base' : Nat} {v : Value} {R : List Fm} {t : TypeId} (h : OwnF w base v R) (hf : FrT t base' w w') (ht : 138 ≠ t) : OwnF w' base v R := ⟨h.1, hf.row h.2 ht⟩
theorem OwnN.fr {w w' : World} {base base' : Nat} {v : Value} {ns : List Nd} {t : TypeId} (h : OwnN w base 98 v ns) (hf : FrT t base' w w') (ht : 98 ≠ t) : OwnN w' base 98 v ns := ⟨h.1, hf.row h.2 ht⟩
theorem FrT.put {w : World} {t : TypeId} {base g : Nat} {cur : Array Value} {r : Nat × Nat} (hb : base ≤ g) (ht : w.heap[g]? = some (.cells cur t r)) (i : Nat) (u : Value) : FrT t base w (w.setCell ⟨g, i, none⟩ u) := But.of_grown (grown_setCell _ _ _) (fun q hq => by cases hq; exact ⟨hb, cur, r, ht⟩)
theorem OwnF.isT {w : World} {base g n cap : Nat} {R : List Fm} (h : OwnF w base (.slice (some ⟨g, 0, none⟩) n cap) R) : ∃ cur r, w.heap[g]? = some (.cells cur 138 r) := by
  rcases h.2.2 with ⟨e, _⟩ | ⟨g', cap', cur, e, _, hh, _⟩
  · cases e
  · cases e; exact ⟨cur, _, hh⟩
set_option maxHeartbeats 16000000 in
theorem emitRoot (nd : List Nd) (zr : List Int) (nc : Int) (hw : Hid (WfA nd nc)) (base b0 : Nat) (na : Option Addr) (ncp hb vb hcap vcap root : Nat) (v : Value) (code : List Nd) (w : World)
    (hN : Hid (NodesAt w na nd)) (hna : Hid (∀ p, na = some p → p.block < base)) (hH : Hid (OwnZ w b0 (.slice (some ⟨hb, 0, none⟩) nd.length hcap) (toL hcN nd nd.length)))
    (hV : Hid (OwnI w b0 2 (.slice (some ⟨vb, 0, none⟩) nd.length vcap) (evTo nd zr nd.length))) (hO : Hid (OwnN w base 98 v code)) (hbase : Hid (base ≤ w.heap.size)) (hr : root < nd.length)
    (hlen : Hid (code.length + tsAt nd root ≤ 65536)) (hnl : nd.length ≤ 65536) :
    Calls Yabn.prog 46 #[.slice na nd.length ncp, .slice (some ⟨hb, 0, none⟩) nd.length hcap, .slice (some ⟨vb, 0, none⟩) nd.length vcap, .int .i64 root, v] w (RetEm base (em nd zr root code) w) := by
  have hF0 : Hid (OwnF (w.alloc (.cells #[.int .i64 (root : Int), .int .i64 0, .int .i64 0] 138)) w.heap.size (.slice (some ⟨w.heap.size, 0, none⟩) 1 1) [⟨root, 0, 0⟩]) := by
    refine ⟨fun x hx => ?_, ?_⟩
    · simp [frows] at hx; subst hx; rfl
    · exact World.ownsRow_lit (base := w.heap.size) (e := 138) (size := 3) w #[.int .i64 (root : Int), .int .i64 0, .int .i64 0] 1 (Nat.le_refl _) (by unfold maxLen; omega) rfl
  have hO0 := hide (hO.out.alloc (.cells #[.int .i64 (root : Int), .int .i64 0, .int .i64 0] 138))
  have hT0 : Hid (FrT 98 base w (w.alloc (.cells #[.int .i64 (root : Int), .int .i64 0, .int .i64 0] 138))) := FrT.of_ext ((Ext.refl w).alloc _)
  go_enter Yabn.func46, Yabn.ntmps46
  go_wp2_with fail
  generalize w.alloc (.cells #[.int .i64 (root : Int), .int .i64 0, .int .i64 0] 138) = W0 at *
  go_loopg [4, 12, 13] (3 * tsAt nd root) (fun gk v4 v12 la wr => ∃ (R : List Fm) (cd : List Nd) (last : Int), la = .int .i64 last ∧ Hid (gk = costs nd R) ∧ Hid (OwnN wr base 98 v4 cd) ∧ Hid (OwnF wr w.heap.size v12 R) ∧ Hid (∀ f ∈ R, FmOK nd f) ∧ Hid (fin nd zr R cd last = em nd zr root code) ∧ Hid (cd.length + buds nd R ≤ 65536) ∧ Hid (costs nd R ≤ 196608) ∧ Hid (FrT 98 base w wr))
  case atStart =>
    refine ⟨[⟨root, 0, 0⟩], code, -1, rfl, ?_, hO0, hF0, fun f hf => ?_, ?_, ?_, ?_, hT0⟩
    · show _ = _; simp [costs, cost]
    · rw [List.mem_singleton] at hf
      subst hf
      exact ⟨hr, by simp, fun h => absurd rfl h, fun h => by simp at h⟩
    · show fin nd zr [⟨root, 0, 0⟩] code (-1) = _
      rw [fin, if_pos rfl]
      rfl
    · have := hlen.out; show code.length + buds nd [⟨root, 0, 0⟩] ≤ 65536; simp [buds, bud]; exact this
    · have := hlen.out; show costs nd [⟨root, 0, 0⟩] ≤ 196608; simp [costs, cost]; omega
  case round =>
    clear hF0 hO0 hT0 hO
    obtain ⟨R, cd, last, rfl, hgk, hO, hS, hfm, hfin, hbud, hcst, hT⟩ := hrel
    cases R with
    | nil =>
      obtain ⟨sa, scap, rfl⟩ := hS.out.nilform
      have hres : Hid ((cd, last) = em nd zr root code) := hfin.out
      obtain ⟨pc, cc, rfl, _⟩ := hO.out.form
      go_wp2_with fail
      go_ret2
      exact ⟨_, by rw [← hres.out]; rfl, by rw [← hres.out]; exact hO.out, hT.out⟩
    | cons f R =>
      obtain ⟨x, st, fa⟩ := f
      obtain ⟨g, cap, rfl⟩ := hS.out.form
      obtain ⟨c0, c1, c2⟩ := hS.out.top
      have hfx := hfm.out ⟨x, st, fa⟩ (List.mem_cons_self)
      have hx := hfx.x
      have hst3 := hfx.st
      have hgo := hide hfx.go
      have htwo := hide hfx.two
      have hfR : Hid (∀ f ∈ R, FmOK nd f) := fun f hf => hfm.out f (by simp [hf])
      simp only at c0 c1 c2 hx hst3
      clear hfx hfm
      have hxl : (x : Int) < nd.length := by omega
      have hRl := costs_len nd R
      have hcc := hide (costs_cons nd ⟨x, st, fa⟩ R)
      have hbb := hide (buds_cons nd ⟨x, st, fa⟩ R)
      have hR0 : Hid (R.length + 1 ≤ 196608) := by have h1 := costs_len nd (⟨x, st, fa⟩ :: R); have := hcst.out; simp only [List.length_cons] at h1; show _ ≤ _; omega
      have hR : R.length < 196608 := by have := hR0.out; omega
      clear hRl hR0
      obtain ⟨b, off, hnae, g1, g2, g3, g4⟩ := (hT.out.nodes hN.out hna.out).get x hx
      subst hnae
      have hgl := OwnV.lt hS.out
      have hcl := cell_lt g1
      have hHr : OwnZ wr b0 (.slice (some ⟨hb, 0, none⟩) nd.length hcap) (toL hcN nd nd.length) := hT.out.row hH.out (by decide)
      have hVr : OwnI wr b0 2 (.slice (some ⟨vb, 0, none⟩) nd.length vcap) (evTo nd zr nd.length) := hT.out.row hV.out (by decide)
      have ch := hc_row hHr x hx
      have cv := ev_row hVr x hx
      have hhl := hHr.lt.2
      have hvl := hVr.lt.2
      clear hHr hVr
      simp only at hcl
      have hcp : R.length + 1 ≤ cap := by
        obtain ⟨_, _, _, h1, _⟩ := OwnV.blk hS.out
        rw [frows_len] at h1
        simpa using h1
      have hcd2 : cd.length ≤ 65536 := by have := hbud.out; omega
      have hcdl : Hid (cd.length < 2 ^ 39) := by have := hbud.out; show _ < _; omega
      obtain ⟨⟨o, y, l, r⟩, hnd⟩ : ∃ m, Hid (nd.getD x nd0 = m) := ⟨_, rfl⟩
      rw [hnd.out] at g1 g2 g3 g4
      simp only at g1 g2 g3 g4
      obtain ⟨e, he⟩ : ∃ e, Hid (evX nd zr x = e) := ⟨_, rfl⟩
      rw [he.out] at cv
      obtain ⟨bz, hbz⟩ : ∃ b, Hid (hcAt nd x = b) := ⟨_, rfl⟩
      rw [hbz.out] at ch
      cases bz with
      | false =>
        have hst0 : st = 0 := by
          by_cases h0 : st = 0
          · exact h0
          · have := (hgo.out h0).1
            simp only at this
            rw [hbz.out] at this
            cases this
        replace hst0 := hide hst0
        have hB1 : Hid (Blk (wr.alloc (.cells #[.int .i64 (x : Int), .int .i64 (st : Int), .int .i64 fa] 138)) wr.heap.size 138 [.int .i64 (x : Int), .int .i64 (st : Int), .int .i64 fa]) := Blk.new wr _ _
        have hB2 : Hid (Blk ((wr.alloc (.cells #[.int .i64 (x : Int), .int .i64 (st : Int), .int .i64 fa] 138)).alloc (.cells #[.int .i64 o, .int .i64 y, .int .i64 l, .int .i64 r] 98)) wr.heap.size 138 [.int .i64 (x : Int), .int .i64 (st : Int), .int .i64 fa]) := hB1.out.alloc _
        have hB3 : Hid (Blk ((wr.alloc (.cells #[.int .i64 (x : Int), .int .i64 (st : Int), .int .i64 fa] 138)).alloc (.cells #[.int .i64 o, .int .i64 y, .int .i64 l, .int .i64 r] 98)) (wr.heap.size + 1) 98 [.int .i64 o, .int .i64 y, .int .i64 l, .int .i64 r]) := by
          have := Blk.new (wr.alloc (.cells #[.int .i64 (x : Int), .int .i64 (st : Int), .int .i64 fa] 138)) #[.int .i64 o, .int .i64 y, .int .i64 l, .int .i64 r] 98
          rw [show (wr.alloc (.cells #[.int .i64 (x : Int), .int .i64 (st : Int), .int .i64 fa] 138)).heap.size = wr.heap.size + 1 by simp] at this
          exact this
        have p0 := hB1.out.box 0 _ rfl
        have p1 := hB2.out.box 0 _ rfl
        have p2 := hB2.out.box 1 _ rfl
        have p3 := hB2.out.box 2 _ rfl
        have m0 := hB3.out.box 0 _ rfl
        have m1 := hB3.out.box 1 _ rfl
        have m2 := hB3.out.box 2 _ rfl
        have m3 := hB3.out.box 3 _ rfl
        have hX3 : Hid (Ext wr (((wr.alloc (.cells #[.int .i64 (x : Int), .int .i64 (st : Int), .int .i64 fa] 138)).alloc (.cells #[.int .i64 o, .int .i64 y, .int .i64 l, .int .i64 r] 98)).alloc (.cells #[.int .i64 1, .int .i64 e, .int .i64 (-1), .int .i64 (-1)] 98))) := (((Ext.refl wr).alloc _).alloc _).alloc _
        have hO3 := hide (hO.out.ext hX3.out)
        have hS3 := hide (OwnV.ext hS.out hX3.out)
        have hblk : Hid ((((wr.alloc (.cells #[.int .i64 (x : Int), .int .i64 (st : Int), .int .i64 fa] 138)).alloc (.cells #[.int .i64 o, .int .i64 y, .int .i64 l, .int .i64 r] 98)).alloc (.cells #[.int .i64 1, .int .i64 e, .int .i64 (-1), .int .i64 (-1)] 98)).heap[wr.heap.size + 1 + 1]? = some (.cells #[.int .i64 1, .int .i64 e, .int .i64 (-1), .int .i64 (-1)] 98 (0, 0))) := by
          have := heap_alloc_new ((wr.alloc (.cells #[.int .i64 (x : Int), .int .i64 (st : Int), .int .i64 fa] 138)).alloc (.cells #[.int .i64 o, .int .i64 y, .int .i64 l, .int .i64 r] 98)) (.cells #[.int .i64 1, .int .i64 e, .int .i64 (-1), .int .i64 (-1)] 98)
          rw [show ((wr.alloc (.cells #[.int .i64 (x : Int), .int .i64 (st : Int), .int .i64 fa] 138)).alloc (.cells #[.int .i64 o, .int .i64 y, .int .i64 l, .int .i64 r] 98)).heap.size = wr.heap.size + 1 + 1 by simp] at this
          exact this
        have hE : Hid (base ≤ (((wr.alloc (.cells #[.int .i64 (x : Int), .int .i64 (st : Int), .int .i64 fa] 138)).alloc (.cells #[.int .i64 o, .int .i64 y, .int .i64 l, .int .i64 r] 98)).alloc (.cells #[.int .i64 1, .int .i64 e, .int .i64 (-1), .int .i64 (-1)] 98)).heap.size) := by
          have h1 := hbase.out
          have h2 := hT.out.size
          have h3 := hX3.out.size
          show base ≤ _
          omega
        have hfn : Hid (fin nd zr R (cd ++ [⟨1, e, (-1), (-1)⟩]) (cd.length : Int) = em nd zr root code) := by
          have h1 := hfin.out
          rw [hst0.out, fin_free hbz.out, he.out] at h1
          exact h1
        have hbn : Hid ((cd ++ [(⟨1, e, (-1), (-1)⟩ : Nd)]).length + buds nd R ≤ 65536) := by
          have h1 := hbud.out
          rw [hbb.out] at h1
          have h2 := bud_pos (nd := nd) ⟨x, st, fa⟩
          show _ ≤ _
          rw [List.length_append, List.length_singleton]
          omega
        have hcn : Hid (costs nd R ≤ 196608) := by have h1 := hcst.out; rw [hcc.out] at h1; show _ ≤ _; omega
        have hgn : Hid (costs nd R < gk) := by have h1 := hgk.out; rw [hcc.out] at h1; have h2 := cost_pos nd ⟨x, st, fa⟩; show _ < _; omega
        go_wp2_with (at_builtin; refine app_node rfl rfl base hE.out u4 cd ⟨1, e, (-1), (-1)⟩ rfl hO3.out (wr.heap.size + 1 + 1) 1 (by rfl) hblk.out hcdl.out ?_; intro g5 cap5 w4 O4 hg4 _ _; have hK := FrT.grown hO3.out.2 hg4; have hT4 := hide ((hT.out.ext hX3.out).trans hK); have hS4 := hide (OwnF.fr hS3.out hK (by decide)); replace O4 := hide O4; clear hK hg4)
        go_roundg (costs nd R)
        case measure => exact hgn.out
        case rel => exact ⟨R, _, (cd.length : Int), by go_num, rfl, O4.out, hS4.out.pop, hfR.out, hfn.out, hbn.out, hcn.out, hT4.out⟩
      | true =>
        have fz1 := OwnV.frozenAt hS.out (R.length * 3 + 1)
        have fz2 := OwnV.frozenAt hS.out (R.length * 3 + 2)
        obtain ⟨cur, rr, hiT⟩ := hS.out.isT
        replace hiT := hide hiT
        by_cases h2 : o = 2
        · have hst0 : st = 0 := by
            by_cases h0 : st = 0
            · exact h0
            · have := (hgo.out h0).2
              simp only at this
              rw [hnd.out] at this
              exact absurd h2 this
          replace hst0 := hide hst0
          have hob : (o == 2) = true := by simp [h2]
          have hop2 : Hid ((nd.getD x nd0).op = 2) := by rw [hnd.out]; exact h2
          replace h2 := hide h2
          have hB1 : Hid (Blk (wr.alloc (.cells #[.int .i64 (x : Int), .int .i64 (st : Int), .int .i64 fa] 138)) wr.heap.size 138 [.int .i64 (x : Int), .int .i64 (st : Int), .int .i64 fa]) := Blk.new wr _ _
          have hB2 : Hid (Blk ((wr.alloc (.cells #[.int .i64 (x : Int), .int .i64 (st : Int), .int .i64 fa] 138)).alloc (.cells #[.int .i64 o, .int .i64 y, .int .i64 l, .int .i64 r] 98)) wr.heap.size 138 [.int .i64 (x : Int), .int .i64 (st : Int), .int .i64 fa]) := hB1.out.alloc _
          have hB3 : Hid (Blk ((wr.alloc (.cells #[.int .i64 (x : Int), .int .i64 (st : Int), .int .i64 fa] 138)).alloc (.cells #[.int .i64 o, .int .i64 y, .int .i64 l, .int .i64 r] 98)) (wr.heap.size + 1) 98 [.int .i64 o, .int .i64 y, .int .i64 l, .int .i64 r]) := by
            have := Blk.new (wr.alloc (.cells #[.int .i64 (x : Int), .int .i64 (st : Int), .int .i64 fa] 138)) #[.int .i64 o, .int .i64 y, .int .i64 l, .int .i64 r] 98
            rw [show (wr.alloc (.cells #[.int .i64 (x : Int), .int .i64 (st : Int), .int .i64 fa] 138)).heap.size = wr.heap.size + 1 by simp] at this
            exact this
          have p0 := hB1.out.box 0 _ rfl
          have p1 := hB2.out.box 0 _ rfl
          have p2 := hB2.out.box 1 _ rfl
          have p3 := hB2.out.box 2 _ rfl
          have m0 := hB3.out.box 0 _ rfl
          have m1 := hB3.out.box 1 _ rfl
          have m2 := hB3.out.box 2 _ rfl
          have m3 := hB3.out.box 3 _ rfl
          have hX3 : Hid (Ext wr (((wr.alloc (.cells #[.int .i64 (x : Int), .int .i64 (st : Int), .int .i64 fa] 138)).alloc (.cells #[.int .i64 o, .int .i64 y, .int .i64 l, .int .i64 r] 98)).alloc (.cells #[.int .i64 2, .int .i64 y, .int .i64 (-1), .int .i64 (-1)] 98))) := (((Ext.refl wr).alloc _).alloc _).alloc _
          have hO3 := hide (hO.out.ext hX3.out)
          have hS3 := hide (OwnV.ext hS.out hX3.out)
          have hblk : Hid ((((wr.alloc (.cells #[.int .i64 (x : Int), .int .i64 (st : Int), .int .i64 fa] 138)).alloc (.cells #[.int .i64 o, .int .i64 y, .int .i64 l, .int .i64 r] 98)).alloc (.cells #[.int .i64 2, .int .i64 y, .int .i64 (-1), .int .i64 (-1)] 98)).heap[wr.heap.size + 1 + 1]? = some (.cells #[.int .i64 2, .int .i64 y, .int .i64 (-1), .int .i64 (-1)] 98 (0, 0))) := by
            have := heap_alloc_new ((wr.alloc (.cells #[.int .i64 (x : Int), .int .i64 (st : Int), .int .i64 fa] 138)).alloc (.cells #[.int .i64 o, .int .i64 y, .int .i64 l, .int .i64 r] 98)) (.cells #[.int .i64 2, .int .i64 y, .int .i64 (-1), .int .i64 (-1)] 98)
            rw [show ((wr.alloc (.cells #[.int .i64 (x : Int), .int .i64 (st : Int), .int .i64 fa] 138)).alloc (.cells #[.int .i64 o, .int .i64 y, .int .i64 l, .int .i64 r] 98)).heap.size = wr.heap.size + 1 + 1 by simp] at this
            exact this
          have hE : Hid (base ≤ (((wr.alloc (.cells #[.int .i64 (x : Int), .int .i64 (st : Int), .int .i64 fa] 138)).alloc (.cells #[.int .i64 o, .int .i64 y, .int .i64 l, .int .i64 r] 98)).alloc (.cells #[.int .i64 2, .int .i64 y, .int .i64 (-1), .int .i64 (-1)] 98)).heap.size) := by
            have h1 := hbase.out
            have h2 := hT.out.size
            have h3 := hX3.out.size
            show base ≤ _
            omega
          have hfn : Hid (fin nd zr R (cd ++ [⟨2, y, (-1), (-1)⟩]) (cd.length : Int) = em nd zr root code) := by
            have h1 := hfin.out
            rw [hst0.out, fin_col hbz.out hop2.out, hnd.out] at h1
            exact h1
          have hbn : Hid ((cd ++ [(⟨2, y, (-1), (-1)⟩ : Nd)]).length + buds nd R ≤ 65536) := by
            have h1 := hbud.out
            rw [hbb.out] at h1
            have h2 := bud_pos (nd := nd) ⟨x, st, fa⟩
            show _ ≤ _
            rw [List.length_append, List.length_singleton]
            omega
          have hcn : Hid (costs nd R ≤ 196608) := by have h1 := hcst.out; rw [hcc.out] at h1; show _ ≤ _; omega
          have hgn : Hid (costs nd R < gk) := by have h1 := hgk.out; rw [hcc.out] at h1; have h2 := cost_pos nd ⟨x, st, fa⟩; show _ < _; omega
          go_wp2_with (at_builtin; refine app_node rfl rfl base hE.out u4 cd ⟨2, y, (-1), (-1)⟩ rfl hO3.out (wr.heap.size + 1 + 1) 1 (by rfl) hblk.out hcdl.out ?_; intro g5 cap5 w4 O4 hg4 _ _; have hK := FrT.grown hO3.out.2 hg4; have hT4 := hide ((hT.out.ext hX3.out).trans hK); have hS4 := hide (OwnF.fr hS3.out hK (by decide)); replace O4 := hide O4; clear hK hg4)
          go_roundg (costs nd R)
          case measure => exact hgn.out
          case rel => exact ⟨R, _, (cd.length : Int), by go_num, rfl, O4.out, hS4.out.pop, hfR.out, hfn.out, hbn.out, hcn.out, hT4.out⟩
        · have hob : (o == 2) = false := by simp [h2]
          have h2n : Hid ((nd.getD x nd0).op ≠ 2) := by rw [hnd.out]; exact h2
          replace h2 := hide h2
          have hs3 : st = 0 ∨ st = 1 ∨ st = 2 := by omega
          rcases hs3 with hst0 | hst1 | hst2
          · have hsb : ((st : Int) == 0) = true := by simp [hst0]
            obtain ⟨lx, hl1, hl2, hff, hfb, hfc⟩ := fin_left (zr := zr) (a := fa) (R := R) (code := cd) (last := last) hw.out hx hbz.out h2n.out
            rw [hnd.out] at hl1
            simp only at hl1
            replace hl1 := hide hl1
            have hff : Hid (fin nd zr (⟨lx, 0, 0⟩ :: ⟨x, 1, fa⟩ :: R) cd last = em nd zr root code) := by
              have h1 := hfin.out
              rw [hst0] at h1
              exact hff.trans h1
            replace hfb := hide hfb
            replace hfc := hide hfc
            have hfk : Hid (FmOK nd ⟨x, 1, fa⟩) := ⟨hx, by simp, fun _ => ⟨hbz.out, h2n.out⟩, fun h => by simp at h⟩
            replace hst0 := hide hst0
            replace hl2 := hide hl2
            have hB1 : Hid (Blk (wr.alloc (.cells #[.int .i64 (x : Int), .int .i64 (st : Int), .int .i64 fa] 138)) wr.heap.size 138 [.int .i64 (x : Int), .int .i64 (st : Int), .int .i64 fa]) := Blk.new wr _ _
            have hB2 : Hid (Blk ((wr.alloc (.cells #[.int .i64 (x : Int), .int .i64 (st : Int), .int .i64 fa] 138)).alloc (.cells #[.int .i64 o, .int .i64 y, .int .i64 l, .int .i64 r] 98)) wr.heap.size 138 [.int .i64 (x : Int), .int .i64 (st : Int), .int .i64 fa]) := hB1.out.alloc _
            have hB3 : Hid (Blk ((wr.alloc (.cells #[.int .i64 (x : Int), .int .i64 (st : Int), .int .i64 fa] 138)).alloc (.cells #[.int .i64 o, .int .i64 y, .int .i64 l, .int .i64 r] 98)) (wr.heap.size + 1) 98 [.int .i64 o, .int .i64 y, .int .i64 l, .int .i64 r]) := by
              have := Blk.new (wr.alloc (.cells #[.int .i64 (x : Int), .int .i64 (st : Int), .int .i64 fa] 138)) #[.int .i64 o, .int .i64 y, .int .i64 l, .int .i64 r] 98
              rw [show (wr.alloc (.cells #[.int .i64 (x : Int), .int .i64 (st : Int), .int .i64 fa] 138)).heap.size = wr.heap.size + 1 by simp] at this
              exact this
            have p0 := hB1.out.box 0 _ rfl
            have p1 := hB2.out.box 0 _ rfl
            have p2 := hB2.out.box 1 _ rfl
            have p3 := hB2.out.box 2 _ rfl
            have m0 := hB3.out.box 0 _ rfl
            have m1 := hB3.out.box 1 _ rfl
            have m2 := hB3.out.box 2 _ rfl
            have m3 := hB3.out.box 3 _ rfl
            have hS2 := hide (hS.out.put 1 (by omega) (.int .i64 1) ⟨x, 1, fa⟩ rfl)
            have hK1 := hide (FrT.put hgl.1 hiT.out (R.length * 3 + 1) (.int .i64 1))
            have hBq : Hid (Blk (((wr.setCell ⟨g, R.length * 3 + 1, none⟩ (.int .i64 1)).alloc (.cells #[.int .i64 (x : Int), .int .i64 (st : Int), .int .i64 fa] 138)).alloc (.cells #[.int .i64 o, .int .i64 y, .int .i64 l, .int .i64 r] 98)) (wr.heap.size + 1) 98 [.int .i64 o, .int .i64 y, .int .i64 l, .int .i64 r]) := by
              have := Blk.new ((wr.setCell ⟨g, R.length * 3 + 1, none⟩ (.int .i64 1)).alloc (.cells #[.int .i64 (x : Int), .int .i64 (st : Int), .int .i64 fa] 138)) #[.int .i64 o, .int .i64 y, .int .i64 l, .int .i64 r] 98
              rw [show ((wr.setCell ⟨g, R.length * 3 + 1, none⟩ (.int .i64 1)).alloc (.cells #[.int .i64 (x : Int), .int .i64 (st : Int), .int .i64 fa] 138)).heap.size = wr.heap.size + 1 by simp] at this
              exact this
            have n2 := hBq.out.box 2 _ rfl
            have n3 := hBq.out.box 3 _ rfl
            have hXq : Hid (Ext (wr.setCell ⟨g, R.length * 3 + 1, none⟩ (.int .i64 1)) ((((wr.setCell ⟨g, R.length * 3 + 1, none⟩ (.int .i64 1)).alloc (.cells #[.int .i64 (x : Int), .int .i64 (st : Int), .int .i64 fa] 138)).alloc (.cells #[.int .i64 o, .int .i64 y, .int .i64 l, .int .i64 r] 98)).alloc (.cells #[.int .i64 l, .int .i64 0, .int .i64 0] 138))) := (((Ext.refl _).alloc _).alloc _).alloc _
            have hS3 := hide (OwnV.ext hS2.out hXq.out)
            have hblk : Hid (((((wr.setCell ⟨g, R.length * 3 + 1, none⟩ (.int .i64 1)).alloc (.cells #[.int .i64 (x : Int), .int .i64 (st : Int), .int .i64 fa] 138)).alloc (.cells #[.int .i64 o, .int .i64 y, .int .i64 l, .int .i64 r] 98)).alloc (.cells #[.int .i64 l, .int .i64 0, .int .i64 0] 138)).heap[wr.heap.size + 1 + 1]? = some (.cells #[.int .i64 l, .int .i64 0, .int .i64 0] 138 (0, 0))) := by
              have := heap_alloc_new (((wr.setCell ⟨g, R.length * 3 + 1, none⟩ (.int .i64 1)).alloc (.cells #[.int .i64 (x : Int), .int .i64 (st : Int), .int .i64 fa] 138)).alloc (.cells #[.int .i64 o, .int .i64 y, .int .i64 l, .int .i64 r] 98)) (.cells #[.int .i64 l, .int .i64 0, .int .i64 0] 138)
              rw [show (((wr.setCell ⟨g, R.length * 3 + 1, none⟩ (.int .i64 1)).alloc (.cells #[.int .i64 (x : Int), .int .i64 (st : Int), .int .i64 fa] 138)).alloc (.cells #[.int .i64 o, .int .i64 y, .int .i64 l, .int .i64 r] 98)).heap.size = wr.heap.size + 1 + 1 by simp] at this
              exact this
            have hE : Hid (w.heap.size ≤ ((((wr.setCell ⟨g, R.length * 3 + 1, none⟩ (.int .i64 1)).alloc (.cells #[.int .i64 (x : Int), .int .i64 (st : Int), .int .i64 fa] 138)).alloc (.cells #[.int .i64 o, .int .i64 y, .int .i64 l, .int .i64 r] 98)).alloc (.cells #[.int .i64 l, .int .i64 0, .int .i64 0] 138)).heap.size) := by
              have h2 := hT.out.size
              have h3 := hK1.out.size
              have h4 := hXq.out.size
              show w.heap.size ≤ _
              omega
            have hbn : Hid (cd.length + buds nd (⟨lx, 0, 0⟩ :: ⟨x, 1, fa⟩ :: R) ≤ 65536) := by
              have h1 := hbud.out
              rw [hbb.out, hst0.out] at h1
              have h2 := hfb.out
              show _ ≤ _
              rw [buds_cons, buds_cons]
              omega
            have hcn : Hid (costs nd (⟨lx, 0, 0⟩ :: ⟨x, 1, fa⟩ :: R) ≤ 196608) := by
              have h1 := hcst.out
              rw [hcc.out, hst0.out] at h1
              have h2 := hfc.out
              show _ ≤ _
              rw [costs_cons, costs_cons]
              omega
            have hgn : Hid (costs nd (⟨lx, 0, 0⟩ :: ⟨x, 1, fa⟩ :: R) < gk) := by
              have h1 := hgk.out
              rw [hcc.out, hst0.out] at h1
              have h2 := hfc.out
              show _ < _
              rw [costs_cons, costs_cons]
              omega
            have hfR2 : Hid (∀ f ∈ (⟨lx, 0, 0⟩ :: ⟨x, 1, fa⟩ :: R : List Fm), FmOK nd f) := fun f hf => by
              rcases List.mem_cons.1 hf with rfl | hf
              · exact ⟨by simp only; have := hl2.out; omega, by simp, fun h => absurd rfl h, fun h => by simp at h⟩
              · rcases List.mem_cons.1 hf with rfl | hf
                · exact hfk.out
                · exact hfR.out f hf
            go_wp2_with (at_builtin; refine app_frame rfl rfl w.heap.size hE.out (.slice (some ⟨g, 0, none⟩) (R.length + 1) cap) (⟨x, 1, fa⟩ :: R) lx l hl1.out rfl hS3.out (wr.heap.size + 1 + 1) 1 (by rfl) hblk.out (by simp only [List.length_cons]; omega) ?_; intro v5 w4 O4 hg4; have hKt := (hK1.out.ext hXq.out).trans (FrT.grown hS3.out.2 hg4); have hT4 : Hid (FrT 98 base w w4) := hT.out.step (hKt.mono (fun q hq => .inr hq.1)); have hO4 := hide (hO.out.fr hKt (by decide)); replace O4 := hide O4; clear hKt hg4)
            go_roundg (costs nd (⟨lx, 0, 0⟩ :: ⟨x, 1, fa⟩ :: R))
            case measure => exact hgn.out
            case rel => exact ⟨_, cd, last, rfl, rfl, hO4.out, O4.out, hfR2.out, hff.out, hbn.out, hcn.out, hT4.out⟩
          · have hsb : ((st : Int) == 0) = false := by simp [hst1]
            have hsc : ((st : Int) == 1) = true := by simp [hst1]
            by_cases hu : o = 3 ∨ o = 15
            · have hun : Hid ((nd.getD x nd0).op = 3 ∨ (nd.getD x nd0).op = 15) := by rw [hnd.out]; exact hu
              replace hst1 := hide hst1
              have hB1 : Hid (Blk (wr.alloc (.cells #[.int .i64 (x : Int), .int .i64 (st : Int), .int .i64 fa] 138)) wr.heap.size 138 [.int .i64 (x : Int), .int .i64 (st : Int), .int .i64 fa]) := Blk.new wr _ _
              have hB2 : Hid (Blk ((wr.alloc (.cells #[.int .i64 (x : Int), .int .i64 (st : Int), .int .i64 fa] 138)).alloc (.cells #[.int .i64 o, .int .i64 y, .int .i64 l, .int .i64 r] 98)) wr.heap.size 138 [.int .i64 (x : Int), .int .i64 (st : Int), .int .i64 fa]) := hB1.out.alloc _
              have hB3 : Hid (Blk ((wr.alloc (.cells #[.int .i64 (x : Int), .int .i64 (st : Int), .int .i64 fa] 138)).alloc (.cells #[.int .i64 o, .int .i64 y, .int .i64 l, .int .i64 r] 98)) (wr.heap.size + 1) 98 [.int .i64 o, .int .i64 y, .int .i64 l, .int .i64 r]) := by
                have := Blk.new (wr.alloc (.cells #[.int .i64 (x : Int), .int .i64 (st : Int), .int .i64 fa] 138)) #[.int .i64 o, .int .i64 y, .int .i64 l, .int .i64 r] 98
                rw [show (wr.alloc (.cells #[.int .i64 (x : Int), .int .i64 (st : Int), .int .i64 fa] 138)).heap.size = wr.heap.size + 1 by simp] at this
                exact this
              have p0 := hB1.out.box 0 _ rfl
              have p1 := hB2.out.box 0 _ rfl
              have p2 := hB2.out.box 1 _ rfl
              have p3 := hB2.out.box 2 _ rfl
              have m0 := hB3.out.box 0 _ rfl
              have m1 := hB3.out.box 1 _ rfl
              have m2 := hB3.out.box 2 _ rfl
              have m3 := hB3.out.box 3 _ rfl
              rcases hu with hu | hu
              · have hub : (o == 3) = true := by simp [hu]
                replace hu := hide hu
                have hX3 : Hid (Ext wr (((wr.alloc (.cells #[.int .i64 (x : Int), .int .i64 (st : Int), .int .i64 fa] 138)).alloc (.cells #[.int .i64 o, .int .i64 y, .int .i64 l, .int .i64 r] 98)).alloc (.cells #[.int .i64 o, .int .i64 0, .int .i64 last, .int .i64 (-1)] 98))) := (((Ext.refl wr).alloc _).alloc _).alloc _
                have hO3 := hide (hO.out.ext hX3.out)
                have hS3 := hide (OwnV.ext hS.out hX3.out)
                have hblk : Hid ((((wr.alloc (.cells #[.int .i64 (x : Int), .int .i64 (st : Int), .int .i64 fa] 138)).alloc (.cells #[.int .i64 o, .int .i64 y, .int .i64 l, .int .i64 r] 98)).alloc (.cells #[.int .i64 o, .int .i64 0, .int .i64 last, .int .i64 (-1)] 98)).heap[wr.heap.size + 1 + 1]? = some (.cells #[.int .i64 o, .int .i64 0, .int .i64 last, .int .i64 (-1)] 98 (0, 0))) := by
                  have := heap_alloc_new ((wr.alloc (.cells #[.int .i64 (x : Int), .int .i64 (st : Int), .int .i64 fa] 138)).alloc (.cells #[.int .i64 o, .int .i64 y, .int .i64 l, .int .i64 r] 98)) (.cells #[.int .i64 o, .int .i64 0, .int .i64 last, .int .i64 (-1)] 98)
                  rw [show ((wr.alloc (.cells #[.int .i64 (x : Int), .int .i64 (st : Int), .int .i64 fa] 138)).alloc (.cells #[.int .i64 o, .int .i64 y, .int .i64 l, .int .i64 r] 98)).heap.size = wr.heap.size + 1 + 1 by simp] at this
                  exact this
                have hE : Hid (base ≤ (((wr.alloc (.cells #[.int .i64 (x : Int), .int .i64 (st : Int), .int .i64 fa] 138)).alloc (.cells #[.int .i64 o, .int .i64 y, .int .i64 l, .int .i64 r] 98)).alloc (.cells #[.int .i64 o, .int .i64 0, .int .i64 last, .int .i64 (-1)] 98)).heap.size) := by
                  have h1 := hbase.out
                  have h2 := hT.out.size
                  have h3 := hX3.out.size
                  show base ≤ _
                  omega
                have hfn : Hid (fin nd zr R (cd ++ [⟨o, 0, last, (-1)⟩]) (cd.length : Int) = em nd zr root code) := by
                  have h1 := hfin.out
                  rw [hst1.out, fin_un hun.out, hnd.out] at h1
                  exact h1
                have hbn : Hid ((cd ++ [(⟨o, 0, last, (-1)⟩ : Nd)]).length + buds nd R ≤ 65536) := by
                  have h1 := hbud.out
                  rw [hbb.out] at h1
                  have h2 := bud_pos (nd := nd) ⟨x, st, fa⟩
                  show _ ≤ _
                  rw [List.length_append, List.length_singleton]
                  omega
                have hcn : Hid (costs nd R ≤ 196608) := by have h1 := hcst.out; rw [hcc.out] at h1; show _ ≤ _; omega
                have hgn : Hid (costs nd R < gk) := by have h1 := hgk.out; rw [hcc.out] at h1; have h2 := cost_pos nd ⟨x, st, fa⟩; show _ < _; omega
                go_wp2_with (at_builtin; refine app_node rfl rfl base hE.out u4 cd ⟨o, 0, last, (-1)⟩ rfl hO3.out (wr.heap.size + 1 + 1) 1 (by rfl) hblk.out hcdl.out ?_; intro g5 cap5 w4 O4 hg4 _ _; have hK := FrT.grown hO3.out.2 hg4; have hT4 := hide ((hT.out.ext hX3.out).trans hK); have hS4 := hide (OwnF.fr hS3.out hK (by decide)); replace O4 := hide O4; clear hK hg4)
                go_roundg (costs nd R)
                case measure => exact hgn.out
                case rel => exact ⟨R, _, (cd.length : Int), by go_num, rfl, O4.out, hS4.out.pop, hfR.out, hfn.out, hbn.out, hcn.out, hT4.out⟩
              · have hub : (o == 3) = false := by simp [hu]
                have hub2 : (o == 15) = true := by simp [hu]
                replace hu := hide hu
                have hX3 : Hid (Ext wr (((wr.alloc (.cells #[.int .i64 (x : Int), .int .i64 (st : Int), .int .i64 fa] 138)).alloc (.cells #[.int .i64 o, .int .i64 y, .int .i64 l, .int .i64 r] 98)).alloc (.cells #[.int .i64 o, .int .i64 0, .int .i64 last, .int .i64 (-1)] 98))) := (((Ext.refl wr).alloc _).alloc _).alloc _
                have hO3 := hide (hO.out.ext hX3.out)
                have hS3 := hide (OwnV.ext hS.out hX3.out)
                have hblk : Hid ((((wr.alloc (.cells #[.int .i64 (x : Int), .int .i64 (st : Int), .int .i64 fa] 138)).alloc (.cells #[.int .i64 o, .int .i64 y, .int .i64 l, .int .i64 r] 98)).alloc (.cells #[.int .i64 o, .int .i64 0, .int .i64 last, .int .i64 (-1)] 98)).heap[wr.heap.size + 1 + 1]? = some (.cells #[.int .i64 o, .int .i64 0, .int .i64 last, .int .i64 (-1)] 98 (0, 0))) := by
                  have := heap_alloc_new ((wr.alloc (.cells #[.int .i64 (x : Int), .int .i64 (st : Int), .int .i64 fa] 138)).alloc (.cells #[.int .i64 o, .int .i64 y, .int .i64 l, .int .i64 r] 98)) (.cells #[.int .i64 o, .int .i64 0, .int .i64 last, .int .i64 (-1)] 98)
                  rw [show ((wr.alloc (.cells #[.int .i64 (x : Int), .int .i64 (st : Int), .int .i64 fa] 138)).alloc (.cells #[.int .i64 o, .int .i64 y, .int .i64 l, .int .i64 r] 98)).heap.size = wr.heap.size + 1 + 1 by simp] at this
                  exact this
                have hE : Hid (base ≤ (((wr.alloc (.cells #[.int .i64 (x : Int), .int .i64 (st : Int), .int .i64 fa] 138)).alloc (.cells #[.int .i64 o, .int .i64 y, .int .i64 l, .int .i64 r] 98)).alloc (.cells #[.int .i64 o, .int .i64 0, .int .i64 last, .int .i64 (-1)] 98)).heap.size) := by
                  have h1 := hbase.out
                  have h2 := hT.out.size
                  have h3 := hX3.out.size
                  show base ≤ _
                  omega
                have hfn : Hid (fin nd zr R (cd ++ [⟨o, 0, last, (-1)⟩]) (cd.length : Int) = em nd zr root code) := by
                  have h1 := hfin.out
                  rw [hst1.out, fin_un hun.out, hnd.out] at h1
                  exact h1
                have hbn : Hid ((cd ++ [(⟨o, 0, last, (-1)⟩ : Nd)]).length + buds nd R ≤ 65536) := by
                  have h1 := hbud.out
                  rw [hbb.out] at h1
                  have h2 := bud_pos (nd := nd) ⟨x, st, fa⟩
                  show _ ≤ _
                  rw [List.length_append, List.length_singleton]
                  omega
                have hcn : Hid (costs nd R ≤ 196608) := by have h1 := hcst.out; rw [hcc.out] at h1; show _ ≤ _; omega
                have hgn : Hid (costs nd R < gk) := by have h1 := hgk.out; rw [hcc.out] at h1; have h2 := cost_pos nd ⟨x, st, fa⟩; show _ < _; omega
                go_wp2_with (at_builtin; refine app_node rfl rfl base hE.out u4 cd ⟨o, 0, last, (-1)⟩ rfl hO3.out (wr.heap.size + 1 + 1) 1 (by rfl) hblk.out hcdl.out ?_; intro g5 cap5 w4 O4 hg4 _ _; have hK := FrT.grown hO3.out.2 hg4; have hT4 := hide ((hT.out.ext hX3.out).trans hK); have hS4 := hide (OwnF.fr hS3.out hK (by decide)); replace O4 := hide O4; clear hK hg4)
                go_roundg (costs nd R)
                case measure => exact hgn.out
                case rel => exact ⟨R, _, (cd.length : Int), by go_num, rfl, O4.out, hS4.out.pop, hfR.out, hfn.out, hbn.out, hcn.out, hT4.out⟩
            · have hun : Hid (¬ ((nd.getD x nd0).op = 3 ∨ (nd.getD x nd0).op = 15)) := by rw [hnd.out]; exact hu
              have hub : (o == 3) = false := by simp; omega
              have hub2 : (o == 15) = false := by simp; omega
              replace hu := hide hu
              obtain ⟨rx, hl1, hl2, hff, hfb, hfc⟩ := fin_right (zr := zr) (a := fa) (R := R) (code := cd) (last := last) hw.out hx hbz.out h2n.out hun.out
              rw [hnd.out] at hl1
              simp only at hl1
              replace hl1 := hide hl1
              have hff : Hid (fin nd zr (⟨rx, 0, 0⟩ :: ⟨x, 2, last⟩ :: R) cd last = em nd zr root code) := by
                have h1 := hfin.out
                rw [hst1] at h1
                exact hff.trans h1
              replace hfb := hide hfb
              replace hfc := hide hfc
              have hfk : Hid (FmOK nd ⟨x, 2, last⟩) := ⟨hx, by simp, fun _ => ⟨hbz.out, h2n.out⟩, fun _ => hun.out⟩
              replace hst1 := hide hst1
              replace hl2 := hide hl2
              have hB1 : Hid (Blk (wr.alloc (.cells #[.int .i64 (x : Int), .int .i64 (st : Int), .int .i64 fa] 138)) wr.heap.size 138 [.int .i64 (x : Int), .int .i64 (st : Int), .int .i64 fa]) := Blk.new wr _ _
              have hB2 : Hid (Blk ((wr.alloc (.cells #[.int .i64 (x : Int), .int .i64 (st : Int), .int .i64 fa] 138)).alloc (.cells #[.int .i64 o, .int .i64 y, .int .i64 l, .int .i64 r] 98)) wr.heap.size 138 [.int .i64 (x : Int), .int .i64 (st : Int), .int .i64 fa]) := hB1.out.alloc _
              have hB3 : Hid (Blk ((wr.alloc (.cells #[.int .i64 (x : Int), .int .i64 (st : Int), .int .i64 fa] 138)).alloc (.cells #[.int .i64 o, .int .i64 y, .int .i64 l, .int .i64 r] 98)) (wr.heap.size + 1) 98 [.int .i64 o, .int .i64 y, .int .i64 l, .int .i64 r]) := by
                have := Blk.new (wr.alloc (.cells #[.int .i64 (x : Int), .int .i64 (st : Int), .int .i64 fa] 138)) #[.int .i64 o, .int .i64 y, .int .i64 l, .int .i64 r] 98
                rw [show (wr.alloc (.cells #[.int .i64 (x : Int), .int .i64 (st : Int), .int .i64 fa] 138)).heap.size = wr.heap.size + 1 by simp] at this
                exact this
              have p0 := hB1.out.box 0 _ rfl
              have p1 := hB2.out.box 0 _ rfl
              have p2 := hB2.out.box 1 _ rfl
              have p3 := hB2.out.box 2 _ rfl
              have m0 := hB3.out.box 0 _ rfl
              have m1 := hB3.out.box 1 _ rfl
              have m2 := hB3.out.box 2 _ rfl
              have m3 := hB3.out.box 3 _ rfl
              have hS1 := hide (hS.out.put 1 (by omega) (.int .i64 2) ⟨x, 2, fa⟩ rfl)
              have hfr1 := hide (FrT.put hgl.1 hiT.out (R.length * 3 + 1) (.int .i64 2))
              obtain ⟨cur2, rr2, hiT2⟩ := hS1.out.isT
              replace hiT2 := hide hiT2
              have hS2 := hide (hS1.out.put 2 (by omega) (.int .i64 last) ⟨x, 2, last⟩ rfl)
              have hK1 := hide (hfr1.out.trans (FrT.put hgl.1 hiT2.out (R.length * 3 + 2) (.int .i64 last)))
              have hBq : Hid (Blk ((((wr.setCell ⟨g, R.length * 3 + 1, none⟩ (.int .i64 2)).setCell ⟨g, R.length * 3 + 2, none⟩ (.int .i64 last)).alloc (.cells #[.int .i64 (x : Int), .int .i64 (st : Int), .int .i64 fa] 138)).alloc (.cells #[.int .i64 o, .int .i64 y, .int .i64 l, .int .i64 r] 98)) (wr.heap.size + 1) 98 [.int .i64 o, .int .i64 y, .int .i64 l, .int .i64 r]) := by
                have := Blk.new (((wr.setCell ⟨g, R.length * 3 + 1, none⟩ (.int .i64 2)).setCell ⟨g, R.length * 3 + 2, none⟩ (.int .i64 last)).alloc (.cells #[.int .i64 (x : Int), .int .i64 (st : Int), .int .i64 fa] 138)) #[.int .i64 o, .int .i64 y, .int .i64 l, .int .i64 r] 98
                rw [show (((wr.setCell ⟨g, R.length * 3 + 1, none⟩ (.int .i64 2)).setCell ⟨g, R.length * 3 + 2, none⟩ (.int .i64 last)).alloc (.cells #[.int .i64 (x : Int), .int .i64 (st : Int), .int .i64 fa] 138)).heap.size = wr.heap.size + 1 by simp] at this
                exact this
              have n2 := hBq.out.box 2 _ rfl
              have n3 := hBq.out.box 3 _ rfl
              have hXq : Hid (Ext ((wr.setCell ⟨g, R.length * 3 + 1, none⟩ (.int .i64 2)).setCell ⟨g, R.length * 3 + 2, none⟩ (.int .i64 last)) (((((wr.setCell ⟨g, R.length * 3 + 1, none⟩ (.int .i64 2)).setCell ⟨g, R.length * 3 + 2, none⟩ (.int .i64 last)).alloc (.cells #[.int .i64 (x : Int), .int .i64 (st : Int), .int .i64 fa] 138)).alloc (.cells #[.int .i64 o, .int .i64 y, .int .i64 l, .int .i64 r] 98)).alloc (.cells #[.int .i64 r, .int .i64 0, .int .i64 0] 138))) := (((Ext.refl _).alloc _).alloc _).alloc _
              have hS3 := hide (OwnV.ext hS2.out hXq.out)
              have hblk : Hid ((((((wr.setCell ⟨g, R.length * 3 + 1, none⟩ (.int .i64 2)).setCell ⟨g, R.length * 3 + 2, none⟩ (.int .i64 last)).alloc (.cells #[.int .i64 (x : Int), .int .i64 (st : Int), .int .i64 fa] 138)).alloc (.cells #[.int .i64 o, .int .i64 y, .int .i64 l, .int .i64 r] 98)).alloc (.cells #[.int .i64 r, .int .i64 0, .int .i64 0] 138)).heap[wr.heap.size + 1 + 1]? = some (.cells #[.int .i64 r, .int .i64 0, .int .i64 0] 138 (0, 0))) := by
                have := heap_alloc_new ((((wr.setCell ⟨g, R.length * 3 + 1, none⟩ (.int .i64 2)).setCell ⟨g, R.length * 3 + 2, none⟩ (.int .i64 last)).alloc (.cells #[.int .i64 (x : Int), .int .i64 (st : Int), .int .i64 fa] 138)).alloc (.cells #[.int .i64 o, .int .i64 y, .int .i64 l, .int .i64 r] 98)) (.cells #[.int .i64 r, .int .i64 0, .int .i64 0] 138)
                rw [show ((((wr.setCell ⟨g, R.length * 3 + 1, none⟩ (.int .i64 2)).setCell ⟨g, R.length * 3 + 2, none⟩ (.int .i64 last)).alloc (.cells #[.int .i64 (x : Int), .int .i64 (st : Int), .int .i64 fa] 138)).alloc (.cells #[.int .i64 o, .int .i64 y, .int .i64 l, .int .i64 r] 98)).heap.size = wr.heap.size + 1 + 1 by simp] at this
                exact this
              have hE : Hid (w.heap.size ≤ (((((wr.setCell ⟨g, R.length * 3 + 1, none⟩ (.int .i64 2)).setCell ⟨g, R.length * 3 + 2, none⟩ (.int .i64 last)).alloc (.cells #[.int .i64 (x : Int), .int .i64 (st : Int), .int .i64 fa] 138)).alloc (.cells #[.int .i64 o, .int .i64 y, .int .i64 l, .int .i64 r] 98)).alloc (.cells #[.int .i64 r, .int .i64 0, .int .i64 0] 138)).heap.size) := by
                have h2 := hT.out.size
                have h3 := hK1.out.size
                have h4 := hXq.out.size
                show w.heap.size ≤ _
                omega
              have hbn : Hid (cd.length + buds nd (⟨rx, 0, 0⟩ :: ⟨x, 2, last⟩ :: R) ≤ 65536) := by
                have h1 := hbud.out
                rw [hbb.out, hst1.out] at h1
                have h2 := hfb.out
                show _ ≤ _
                rw [buds_cons, buds_cons]
                omega
              have hcn : Hid (costs nd (⟨rx, 0, 0⟩ :: ⟨x, 2, last⟩ :: R) ≤ 196608) := by
                have h1 := hcst.out
                rw [hcc.out, hst1.out] at h1
                have h2 := hfc.out
                show _ ≤ _
                rw [costs_cons, costs_cons]
                omega
              have hgn : Hid (costs nd (⟨rx, 0, 0⟩ :: ⟨x, 2, last⟩ :: R) < gk) := by
                have h1 := hgk.out
                rw [hcc.out, hst1.out] at h1
                have h2 := hfc.out
                show _ < _
                rw [costs_cons, costs_cons]
                omega
              have hfR2 : Hid (∀ f ∈ (⟨rx, 0, 0⟩ :: ⟨x, 2, last⟩ :: R : List Fm), FmOK nd f) := fun f hf => by
                rcases List.mem_cons.1 hf with rfl | hf
                · exact ⟨by simp only; have := hl2.out; omega, by simp, fun h => absurd rfl h, fun h => by simp at h⟩
                · rcases List.mem_cons.1 hf with rfl | hf
                  · exact hfk.out
                  · exact hfR.out f hf
              go_wp2_with (at_builtin; refine app_frame rfl rfl w.heap.size hE.out (.slice (some ⟨g, 0, none⟩) (R.length + 1) cap) (⟨x, 2, last⟩ :: R) rx r hl1.out rfl hS3.out (wr.heap.size + 1 + 1) 1 (by rfl) hblk.out (by simp only [List.length_cons]; omega) ?_; intro v5 w4 O4 hg4; have hKt := (hK1.out.ext hXq.out).trans (FrT.grown hS3.out.2 hg4); have hT4 : Hid (FrT 98 base w w4) := hT.out.step (hKt.mono (fun q hq => .inr hq.1)); have hO4 := hide (hO.out.fr hKt (by decide)); replace O4 := hide O4; clear hKt hg4)
              go_roundg (costs nd (⟨rx, 0, 0⟩ :: ⟨x, 2, last⟩ :: R))
              case measure => exact hgn.out
              case rel => exact ⟨_, cd, last, rfl, rfl, hO4.out, O4.out, hfR2.out, hff.out, hbn.out, hcn.out, hT4.out⟩
          · have hsb : ((st : Int) == 0) = false := by simp [hst2]
            have hsc : ((st : Int) == 1) = false := by simp [hst2]
            have hun : ¬ (o = 3 ∨ o = 15) := by
              have := htwo.out hst2
              simp only at this
              rw [hnd.out] at this
              exact this
            have hub : (o == 3) = false := by simp; omega
            have hub2 : (o == 15) = false := by simp; omega
            replace hun := hide hun
            replace hst2 := hide hst2
            have hB1 : Hid (Blk (wr.alloc (.cells #[.int .i64 (x : Int), .int .i64 (st : Int), .int .i64 fa] 138)) wr.heap.size 138 [.int .i64 (x : Int), .int .i64 (st : Int), .int .i64 fa]) := Blk.new wr _ _
            have hB2 : Hid (Blk ((wr.alloc (.cells #[.int .i64 (x : Int), .int .i64 (st : Int), .int .i64 fa] 138)).alloc (.cells #[.int .i64 o, .int .i64 y, .int .i64 l, .int .i64 r] 98)) wr.heap.size 138 [.int .i64 (x : Int), .int .i64 (st : Int), .int .i64 fa]) := hB1.out.alloc _
            have hB3 : Hid (Blk ((wr.alloc (.cells #[.int .i64 (x : Int), .int .i64 (st : Int), .int .i64 fa] 138)).alloc (.cells #[.int .i64 o, .int .i64 y, .int .i64 l, .int .i64 r] 98)) (wr.heap.size + 1) 98 [.int .i64 o, .int .i64 y, .int .i64 l, .int .i64 r]) := by
              have := Blk.new (wr.alloc (.cells #[.int .i64 (x : Int), .int .i64 (st : Int), .int .i64 fa] 138)) #[.int .i64 o, .int .i64 y, .int .i64 l, .int .i64 r] 98
              rw [show (wr.alloc (.cells #[.int .i64 (x : Int), .int .i64 (st : Int), .int .i64 fa] 138)).heap.size = wr.heap.size + 1 by simp] at this
              exact this
            have p0 := hB1.out.box 0 _ rfl
            have p1 := hB2.out.box 0 _ rfl
            have p2 := hB2.out.box 1 _ rfl
            have p3 := hB2.out.box 2 _ rfl
            have m0 := hB3.out.box 0 _ rfl
            have m1 := hB3.out.box 1 _ rfl
            have m2 := hB3.out.box 2 _ rfl
            have m3 := hB3.out.box 3 _ rfl
            have hX3 : Hid (Ext wr (((wr.alloc (.cells #[.int .i64 (x : Int), .int .i64 (st : Int), .int .i64 fa] 138)).alloc (.cells #[.int .i64 o, .int .i64 y, .int .i64 l, .int .i64 r] 98)).alloc (.cells #[.int .i64 o, .int .i64 0, .int .i64 fa, .int .i64 last] 98))) := (((Ext.refl wr).alloc _).alloc _).alloc _
            have hO3 := hide (hO.out.ext hX3.out)
            have hS3 := hide (OwnV.ext hS.out hX3.out)
            have hblk : Hid ((((wr.alloc (.cells #[.int .i64 (x : Int), .int .i64 (st : Int), .int .i64 fa] 138)).alloc (.cells #[.int .i64 o, .int .i64 y, .int .i64 l, .int .i64 r] 98)).alloc (.cells #[.int .i64 o, .int .i64 0, .int .i64 fa, .int .i64 last] 98)).heap[wr.heap.size + 1 + 1]? = some (.cells #[.int .i64 o, .int .i64 0, .int .i64 fa, .int .i64 last] 98 (0, 0))) := by
              have := heap_alloc_new ((wr.alloc (.cells #[.int .i64 (x : Int), .int .i64 (st : Int), .int .i64 fa] 138)).alloc (.cells #[.int .i64 o, .int .i64 y, .int .i64 l, .int .i64 r] 98)) (.cells #[.int .i64 o, .int .i64 0, .int .i64 fa, .int .i64 last] 98)
              rw [show ((wr.alloc (.cells #[.int .i64 (x : Int), .int .i64 (st : Int), .int .i64 fa] 138)).alloc (.cells #[.int .i64 o, .int .i64 y, .int .i64 l, .int .i64 r] 98)).heap.size = wr.heap.size + 1 + 1 by simp] at this
              exact this
            have hE : Hid (base ≤ (((wr.alloc (.cells #[.int .i64 (x : Int), .int .i64 (st : Int), .int .i64 fa] 138)).alloc (.cells #[.int .i64 o, .int .i64 y, .int .i64 l, .int .i64 r] 98)).alloc (.cells #[.int .i64 o, .int .i64 0, .int .i64 fa, .int .i64 last] 98)).heap.size) := by
              have h1 := hbase.out
              have h2 := hT.out.size
              have h3 := hX3.out.size
              show base ≤ _
              omega
            have hfn : Hid (fin nd zr R (cd ++ [⟨o, 0, fa, last⟩]) (cd.length : Int) = em nd zr root code) := by
              have h1 := hfin.out
              rw [hst2.out, fin_bi, hnd.out] at h1
              exact h1
            have hbn : Hid ((cd ++ [(⟨o, 0, fa, last⟩ : Nd)]).length + buds nd R ≤ 65536) := by
              have h1 := hbud.out
              rw [hbb.out] at h1
              have h2 := bud_pos (nd := nd) ⟨x, st, fa⟩
              show _ ≤ _
              rw [List.length_append, List.length_singleton]
              omega
            have hcn : Hid (costs nd R ≤ 196608) := by have h1 := hcst.out; rw [hcc.out] at h1; show _ ≤ _; omega
            have hgn : Hid (costs nd R < gk) := by have h1 := hgk.out; rw [hcc.out] at h1; have h2 := cost_pos nd ⟨x, st, fa⟩; show _ < _; omega
            go_wp2_with (at_builtin; refine app_node rfl rfl base hE.out u4 cd ⟨o, 0, fa, last⟩ rfl hO3.out (wr.heap.size + 1 + 1) 1 (by rfl) hblk.out hcdl.out ?_; intro g5 cap5 w4 O4 hg4 _ _; have hK := FrT.grown hO3.out.2 hg4; have hT4 := hide ((hT.out.ext hX3.out).trans hK); have hS4 := hide (OwnF.fr hS3.out hK (by decide)); replace O4 := hide O4; clear hK hg4)
            go_roundg (costs nd R)
            case measure => exact hgn.out
            case rel => exact ⟨R, _, (cd.length : Int), by go_num, rfl, O4.out, hS4.out.pop, hfR.out, hfn.out, hbn.out, hcn.out, hT4.out⟩
end Go.Proofs.YbyabwGreat
