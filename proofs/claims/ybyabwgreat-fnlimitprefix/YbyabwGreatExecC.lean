/- spec.RefExecute once more: the answer's room -/
import Derived.Test.YbyabwGreatExec1
import Derived.Test.YbyabwGreatAnsC2
namespace Go.Proofs.YbyabwGreat
open Go.RowKit
set_option maxRecDepth 100000
set_option linter.unusedVariables false
set_option linter.unusedSimpArgs false

def RetExC (x : ByteArray) (cs : List Col) (n : Int) (w : World) : Ending → World → Prop := fun en w' => Ext w w' ∧
  ((Exr x cs n none ∧ en = .returned (.tuple #[.agg #[.int .i64 0, .slice none 0 0], .bool false])) ∨
   ∃ c xs a cap, Exr x cs n (some (c, xs)) ∧ en = .returned (.tuple #[.agg #[.int .i64 (c : Nat), .slice a xs.length cap], .bool true]) ∧ IntsAt w' a xs ∧ xs.length < 2 ^ 39 ∧ xs.length ≤ cap)
theorem answerC (p : Pl) (na ia ga ra : Option Addr) (cn ci cg rc : Nat) (rows : Nat → List Int) (n k : Nat) (w : World)
    (hn : Hid (NodesAt w na p.code)) (hit : Hid (PairsAt w ia p.its)) (hgr : Hid (IntsAt w ga p.gr)) (hrw : Hid (IRows w ra n rows)) (hrl : Hid (∀ i, i < n → (rows i).length = k)) (hwf : Hid (WfA p.code k)) (hwh : WhP p.code.length p.wh) (hits : Hid (∀ it ∈ p.its, ItOK p.code.length it)) (hgp : Hid (GrP k p.gr)) (h1 : 1 ≤ p.its.length) (l1 : p.code.length ≤ 65536) (l2 : p.its.length ≤ 65536) (l3 : p.gr.length ≤ 65600) (hk : k ≤ 256) (hnn : n ≤ 65536) :
    Calls Yabn.prog 26 #[.slice na p.code.length cn, .int .i64 p.wh, .slice ia p.its.length ci, .slice ga p.gr.length cg, .int .i64 p.li, .bool p.ag, .slice ra n rc, .int .i64 k] w (RetAnsC p.its.length (run p rows n k) w) := by
  cases hag : p.ag with
  | false =>
    have := answer_noC p hag na ia ga ra cn ci cg rc rows n k w hn hit hgr hrw hrl hwf hwh hits hgp h1 l1 l2 l3 hk hnn
    rw [hag] at this
    exact this
  | true =>
    have := answer_yesC p hag na ia ga ra cn ci cg rc rows n k w hn hit hgr hrw hrl hwf hwh hits hgp h1 l1 l2 l3 hk hnn
    rw [hag] at this
    exact this
set_option maxHeartbeats 16000000 in
theorem RefExecuteC (x : ByteArray) (cs : List Col) (n : Int) (a : Option Addr) (cap : Nat) (w : World) (ht : Hid (ColsAt w a cs)) (hlc : cs.length < 2 ^ 39) :
    Calls Yabn.prog 8 #[.string x, .agg #[.int .i64 n, .slice a cs.length cap]] w (RetExC x cs n w) := by
  have hB0 : Hid (Blk ((w.alloc (.cells #[.int .i64 n, .slice a cs.length cap] 27)).alloc (.cells #[.int .i64 0, .slice none 0 0] 34)) w.heap.size 27 [.int .i64 n, .slice a cs.length cap]) := (Blk.new w _ _).alloc _
  have hG0 : Hid (Blk ((w.alloc (.cells #[.int .i64 n, .slice a cs.length cap] 27)).alloc (.cells #[.int .i64 0, .slice none 0 0] 34)) (w.heap.size + 1) 34 rsz) := by
    have := Blk.new (w.alloc (.cells #[.int .i64 n, .slice a cs.length cap] 27)) #[.int .i64 0, .slice none 0 0] 34
    rw [show (w.alloc (.cells #[.int .i64 n, .slice a cs.length cap] 27)).heap.size = w.heap.size + 1 by simp] at this
    exact this
  have hX0 : Hid (Ext w ((w.alloc (.cells #[.int .i64 n, .slice a cs.length cap] 27)).alloc (.cells #[.int .i64 0, .slice none 0 0] 34))) := ((Ext.refl w).alloc _).alloc _
  go_enter Yabn.func8, Yabn.ntmps8
  go_wp2_with fail
  generalize ((w.alloc (.cells #[.int .i64 n, .slice a cs.length cap] 27)).alloc (.cells #[.int .i64 0, .slice none 0 0] 34)) = W0 at *
  refine (RefValidTable cs n a cap W0 (ht.out.ext hX0.out) (by omega)).mono ?_
  rintro e w1 ⟨bv, rfl, hbv, x1⟩
  have hX1 : Hid (Ext w w1) := hX0.out.trans x1
  have hB1 := hide (hB0.out.ext x1)
  have hG1 := hide (hG0.out.ext x1)
  replace hbv := hide hbv
  clear x1 hX0 hB0 hG0
  cases bv with
  | false =>
    have hex : Hid (Exr x cs n none) := .inl ⟨(fun h => by have := hbv.out.2 h; cases this), rfl⟩
    dsimp only
    go_wp2_with (refine wpList_storeB (vs := rsz) rfl rfl (by rfl) (by rfl) hG1.out size_res rfl rsz_one ?_; intro w99 hb99 hg99; replace hb99 := hide hb99; replace hg99 := hide hg99)
    refine bodyPost_ret (results_cell2 rfl (by rfl) hb99.out Yabn.underlying34 size_res) rfl ?_
    exact ⟨hX1.out.grown hg99.out (fun q hq => by cases hq; omega), .inl ⟨hex.out, rfl⟩⟩
  | true =>
  have hval : Hid (ValidT cs n) := hbv.out.1 rfl
  clear hbv
  have hcl : cs.length ≤ 256 := hval.out.2.2.1
  have hn0 := hval.out.1
  have hn1 := hval.out.2.1
  obtain ⟨n, rfl⟩ := Int.eq_ofNat_of_zero_le hn0
  dsimp only
  go_wp2_with fail
  refine (RefParse x w1).mono ?_
  rintro e w2 ⟨x2, ⟨hp, rfl⟩ | ⟨q, ia, na, ga, ic, nc, gc, hp, rfl, hqo⟩⟩
  · have hex : Hid (Exr x cs n none) := .inr ⟨hval.out, .inl ⟨hp, rfl⟩⟩
    have hX2 : Hid (Ext w (w2.alloc (.cells #[.slice none 0 0, .slice none 0 0, .int .i64 0, .slice none 0 0, .int .i64 0] 53))) := (hX1.out.trans x2).alloc _
    have hG2 := hide ((hG1.out.ext x2).alloc (.cells #[.slice none 0 0, .slice none 0 0, .int .i64 0, .slice none 0 0, .int .i64 0] 53))
    clear x2 hp hX1 hG1
    simp only [qz]
    go_wp2_with (refine wpList_storeB (vs := rsz) rfl rfl (by rfl) (by rfl) hG2.out size_res rfl rsz_one ?_; intro w99 hb99 hg99; replace hb99 := hide hb99; replace hg99 := hide hg99)
    refine bodyPost_ret (results_cell2 rfl (by rfl) hb99.out Yabn.underlying34 size_res) rfl ?_
    exact ⟨hX2.out.grown hg99.out (fun q hq => by cases hq; omega), .inl ⟨hex.out, rfl⟩⟩
  replace hp := hide hp
  have hplq : Hid (plQ q cs.length = ⟨cs.length, q.nd, q.wh, q.its, q.gr, q.li, aggW q.its q.gr⟩) := rfl
  have hexn : Hid (¬ CmOK q cs.length → Exr x cs n none) := fun h => .inr ⟨hval.out, .inr ⟨q, hp.out, .inl ⟨h, rfl⟩⟩⟩
  have hexc : Hid (CmOK q cs.length → costV (plan q cs.length) cs.length n = false → Exr x cs n none) := fun h hc => .inr ⟨hval.out, .inr ⟨q, hp.out, .inr ⟨h, .inl ⟨hc, rfl⟩⟩⟩⟩
  have hexy : Hid (CmOK q cs.length → costV (plan q cs.length) cs.length n = true → Exr x cs n (some (q.its.length, run (plQ q cs.length) (rowT cs) n cs.length))) := fun h hc => .inr ⟨hval.out, .inr ⟨q, hp.out, .inr ⟨h, .inr ⟨hc, rfl⟩⟩⟩⟩
  clear hp
  have hplr : Hid (CmOK q cs.length → run (plan q cs.length) (rowT cs) n cs.length = run (plQ q cs.length) (rowT cs) n cs.length) := fun h => plan_run h _ _ _
  have hpll : Hid (CmOK q cs.length → PlOK (plan q cs.length) ∧ (plan q cs.length).code.length ≤ q.nd.length ∧ (plan q cs.length).its.length = q.its.length ∧ (plan q cs.length).gr = q.gr ∧ (plan q cs.length).nc = cs.length) := fun h => by obtain ⟨h1, h2, h3, _⟩ := plan_law h; exact ⟨h1, h2, h3, rfl, rfl⟩
  have hshort : Hid ((run (plQ q cs.length) (rowT cs) n cs.length).length < 2 ^ 39) := run_short _ _ _ _ hqo.li (by omega)
  obtain ⟨its, nd, wh, gr, li⟩ := q
  have hX2 : Hid (Ext w (w2.alloc (.cells #[.slice ia its.length ic, .slice na nd.length nc, .int .i64 wh, .slice ga gr.length gc, .int .i64 li] 53))) := (hX1.out.trans x2).alloc _
  have hB2 := hide ((hB1.out.ext x2).alloc (.cells #[.slice ia its.length ic, .slice na nd.length nc, .int .i64 wh, .slice ga gr.length gc, .int .i64 li] 53))
  have hG2 := hide ((hG1.out.ext x2).alloc (.cells #[.slice ia its.length ic, .slice na nd.length nc, .int .i64 wh, .slice ga gr.length gc, .int .i64 li] 53))
  have hq2 := hide (hqo.at3.ext ((Ext.refl w2).alloc (.cells #[.slice ia its.length ic, .slice na nd.length nc, .int .i64 wh, .slice ga gr.length gc, .int .i64 li] 53)))
  have hq1 : 1 ≤ its.length := hqo.ne
  have b2 : Hid (Blk (w2.alloc (.cells #[.slice ia its.length ic, .slice na nd.length nc, .int .i64 wh, .slice ga gr.length gc, .int .i64 li] 53)) w2.heap.size 53 [.slice ia its.length ic, .slice na nd.length nc, .int .i64 wh, .slice ga gr.length gc, .int .i64 li]) := Blk.new w2 _ _
  have hl1 : its.length ≤ 65536 := hq2.out.li
  have hl2 : nd.length ≤ 65536 := hq2.out.ln
  have hl3 : gr.length ≤ 65600 := hq2.out.lg
  clear x2 hqo hX1 hB1 hG1
  have p0 := b2.out.box 0 _ rfl
  have p1 := b2.out.box 1 _ rfl
  have p2 := b2.out.box 2 _ rfl
  have p3 := b2.out.box 3 _ rfl
  have p4 := b2.out.box 4 _ rfl
  have t1 := hB2.out.box 1 _ rfl
  simp only [qCells]
  go_wp2_with fail
  generalize (w2.alloc (.cells #[.slice ia its.length ic, .slice na nd.length nc, .int .i64 wh, .slice ga gr.length gc, .int .i64 li] 53)) = W2 at *
  generalize w2.heap.size = QQ at *
  refine (RefCompile ⟨its, nd, wh, gr, li⟩ ia na ga ic nc gc cs.length W2 hq2.out.its hq2.out.nd hq2.out.gr hl1 hl2 hl3 (by omega)).mono ?_
  rintro e w3 ⟨x3, ⟨hno, rfl⟩ | ⟨hyes, ca, pa, pg, cc, pc, pgc, rfl, hop⟩⟩
  · have hex := hide (hexn.out hno)
    have hX3 : Hid (Ext w (w3.alloc (.cells #[.int .i64 0, .slice none 0 0, .int .i64 0, .slice none 0 0, .slice none 0 0, .int .i64 0, .bool false] 57))) := (hX2.out.trans x3).alloc _
    have hG3 := hide ((hG2.out.ext x3).alloc (.cells #[.int .i64 0, .slice none 0 0, .int .i64 0, .slice none 0 0, .slice none 0 0, .int .i64 0, .bool false] 57))
    clear x3 hno hX2 hG2 p0 p1 p2 p3 p4 t1
    simp only [plz]
    go_wp2_with (refine wpList_storeB (vs := rsz) rfl rfl (by rfl) (by rfl) hG3.out size_res rfl rsz_one ?_; intro w99 hb99 hg99; replace hb99 := hide hb99; replace hg99 := hide hg99)
    refine bodyPost_ret (results_cell2 rfl (by rfl) hb99.out Yabn.underlying34 size_res) rfl ?_
    exact ⟨hX3.out.grown hg99.out (fun q hq => by cases hq; omega), .inl ⟨hex.out, rfl⟩⟩
  clear p0 p1 p2 p3 p4 t1 hexn
  replace hexc := hide (hexc.out hyes)
  replace hexy := hide (hexy.out hyes)
  replace hplr := hide (hplr.out hyes)
  replace hpll := hide (hpll.out hyes)
  replace hyes := hide hyes
  obtain ⟨pp, hpp⟩ : ∃ pp, Hid (plan ⟨its, nd, wh, gr, li⟩ cs.length = pp) := ⟨_, rfl⟩
  rw [hpp.out] at hexc hexy hplr hpll hop
  rw [hpp.out]
  obtain ⟨hpok, hpc, hpi, hpg, hpn⟩ := hpll.out
  (try simp only at hpc hpi hpg)
  obtain ⟨pnc, code, pwh, pits, pgr, pli, pag⟩ := pp
  (try simp only at hpc hpi hpg hpn)
  have hpat := hide (hop.at (by simp only; omega) (by simp only; omega) (by simp only; rw [hpg]; omega))
  replace hpok := hide hpok
  replace hpi := hide hpi
  replace hpn := hide hpn
  replace hpg := hide hpg
  replace hpc := hide hpc
  have hX3 : Hid (Ext w (w3.alloc (.cells #[.int .i64 pnc, .slice ca code.length cc, .int .i64 pwh, .slice pa pits.length pc, .slice pg pgr.length pgc, .int .i64 pli, .bool pag] 57))) := (hX2.out.trans x3).alloc _
  have hB3 := hide ((hB2.out.ext x3).alloc (.cells #[.int .i64 pnc, .slice ca code.length cc, .int .i64 pwh, .slice pa pits.length pc, .slice pg pgr.length pgc, .int .i64 pli, .bool pag] 57))
  have hG3 := hide ((hG2.out.ext x3).alloc (.cells #[.int .i64 pnc, .slice ca code.length cc, .int .i64 pwh, .slice pa pits.length pc, .slice pg pgr.length pgc, .int .i64 pli, .bool pag] 57))
  have b3 : Hid (Blk (w3.alloc (.cells #[.int .i64 pnc, .slice ca code.length cc, .int .i64 pwh, .slice pa pits.length pc, .slice pg pgr.length pgc, .int .i64 pli, .bool pag] 57)) QQ 53 [.slice ia its.length ic, .slice na nd.length nc, .int .i64 wh, .slice ga gr.length gc, .int .i64 li]) := (b2.out.ext x3).alloc _
  have hq3 := hide ((hq2.out.ext x3).ext ((Ext.refl w3).alloc (.cells #[.int .i64 pnc, .slice ca code.length cc, .int .i64 pwh, .slice pa pits.length pc, .slice pg pgr.length pgc, .int .i64 pli, .bool pag] 57)))
  have hpat3 := hide (hpat.out.ext ((Ext.refl w3).alloc (.cells #[.int .i64 pnc, .slice ca code.length cc, .int .i64 pwh, .slice pa pits.length pc, .slice pg pgr.length pgc, .int .i64 pli, .bool pag] 57)))
  have c3 : Hid (Blk (w3.alloc (.cells #[.int .i64 pnc, .slice ca code.length cc, .int .i64 pwh, .slice pa pits.length pc, .slice pg pgr.length pgc, .int .i64 pli, .bool pag] 57)) w3.heap.size 57 [.int .i64 pnc, .slice ca code.length cc, .int .i64 pwh, .slice pa pits.length pc, .slice pg pgr.length pgc, .int .i64 pli, .bool pag]) := Blk.new w3 _ _
  clear x3 hop hX2 hB2 hG2 hq2 b2 hpat hpp hpll
  simp only [plCells]
  have s0 := c3.out.box 0 _ rfl
  have s1 := c3.out.box 1 _ rfl
  have s2 := c3.out.box 2 _ rfl
  have s3 := c3.out.box 3 _ rfl
  have s4 := c3.out.box 4 _ rfl
  have s5 := c3.out.box 5 _ rfl
  have s6 := c3.out.box 6 _ rfl
  have t0 := hB3.out.box 0 _ rfl
  have t1 := hB3.out.box 1 _ rfl
  go_wp2_with fail
  generalize (w3.alloc (.cells #[.int .i64 pnc, .slice ca code.length cc, .int .i64 pwh, .slice pa pits.length pc, .slice pg pgr.length pgc, .int .i64 pli, .bool pag] 57)) = W3 at *
  generalize w3.heap.size = PP at *
  have hlen := hide hpat3.out.len
  refine (refCostOK ⟨pnc, code, pwh, pits, pgr, pli, pag⟩ ca pa pg a cc pc pgc cap n cs.length W3 hlen.out hcl (by omega)).mono ?_
  rintro e w4 ⟨rfl, x4⟩
  have hX4 : Hid (Ext w w4) := hX3.out.trans x4
  have hG4 := hide (hG3.out.ext x4)
  have hB4 := hide (hB3.out.ext x4)
  have b4 := hide (b3.out.ext x4)
  have hq4 := hide (hq3.out.ext x4)
  have hgl := hG3.out.lt
  clear x4 s0 s1 s2 s3 s4 s5 s6 t0 t1 hX3 hB3 hG3 b3 hq3 c3
  obtain ⟨CV, hCV⟩ : ∃ CV, Hid (costV ⟨pnc, code, pwh, pits, pgr, pli, pag⟩ cs.length n = CV) := ⟨_, rfl⟩
  rw [hCV.out]
  cases CV with
  | false =>
    have hex := hide (hexc.out hCV.out)
    dsimp only
    go_wp2_with (refine wpList_storeB (vs := rsz) rfl rfl (by rfl) (by rfl) hG4.out size_res rfl rsz_one ?_; intro w99 hb99 hg99; replace hb99 := hide hb99; replace hg99 := hide hg99)
    refine bodyPost_ret (results_cell2 rfl (by rfl) hb99.out Yabn.underlying34 size_res) rfl ?_
    exact ⟨hX4.out.grown hg99.out (fun q hq => by cases hq; omega), .inl ⟨hex.out, rfl⟩⟩
  | true =>
    have hex := hide (hexy.out hCV.out)
    have t0 := hB4.out.box 0 _ rfl
    have t1 := hB4.out.box 1 _ rfl
    dsimp only
    go_wp2_with fail
    refine (RefDecodeTable_yes cs n a cap w4 (ht.out.ext hX4.out) hcl (by omega) hval).mono ?_
    rintro e w5 ⟨ra, rc, rfl, hr, x5⟩
    have hX5 : Hid (Ext w w5) := hX4.out.trans x5
    have hG5 := hide (hG4.out.ext x5)
    have hB5 := hide (hB4.out.ext x5)
    have b5 := hide (b4.out.ext x5)
    have hq5 := hide (hq4.out.ext x5)
    replace hr := hide hr
    clear x5 t0 t1 hX4 hB4 hG4 b4 hq4
    have p0 := b5.out.box 0 _ rfl
    have p1 := b5.out.box 1 _ rfl
    have p3 := b5.out.box 3 _ rfl
    go_wp2_with fail
    refine (aggRule nd its gr na ia ga nc ic gc cs.length w5 hq5.out.nd hq5.out.its hq5.out.gr (by omega) (by omega) (by omega) hyes.out.wf hyes.out.its).mono ?_
    rintro e w6 ⟨x6, ok, rfl, _⟩
    have hX6 : Hid (Ext w w6) := hX5.out.trans x6
    have hG6 := hide (hG5.out.ext x6)
    have hB6 := hide (hB5.out.ext x6)
    have b6 := hide (b5.out.ext x6)
    have hq6 := hide (hq5.out.ext x6)
    have hr6 := hide (hr.out.ext x6)
    clear x6 p0 p1 p3 hX5 hB5 hG5 b5 hq5 hr
    have p0 := b6.out.box 0 _ rfl
    have p1 := b6.out.box 1 _ rfl
    have p2 := b6.out.box 2 _ rfl
    have p3 := b6.out.box 3 _ rfl
    have p4 := b6.out.box 4 _ rfl
    have t1 := hB6.out.box 1 _ rfl
    have hans := hide (answerC ⟨cs.length, nd, wh, its, gr, li, aggW its gr⟩ na ia ga ra nc ic gc rc (rowT cs) n cs.length w6 hq6.out.nd hq6.out.its hq6.out.gr hr6 (fun i _ => rowT_len cs i) hyes.out.wf hyes.out.wh hyes.out.its hyes.out.gr hq1 hl2 hl1 hl3 hcl (by omega))
    simp only at hans
    rw [← hplq.out] at hans
    obtain ⟨AGv, hAG⟩ : ∃ AGv, Hid (aggW its gr = AGv) := ⟨_, rfl⟩
    rw [hAG.out] at hans ⊢
    obtain ⟨RR, hRR⟩ : ∃ RR, Hid (run (plQ ⟨its, nd, wh, gr, li⟩ cs.length) (rowT cs) n cs.length = RR) := ⟨_, rfl⟩
    rw [hRR.out] at hex hans hshort
    go_wp2_with fail
    refine hans.out.mono ?_
    rintro e w7 ⟨oa, oc, rfl, hri, hab, hcap, x7⟩
    have hX7 : Hid (Ext w w7) := hX6.out.trans x7
    have hG7 := hide (hG6.out.ext x7)
    replace hri := hide hri
    clear x7 p0 p1 p2 p3 p4 t1
    go_wp2_with (refine wpList_storeB (vs := [.int .i64 its.length, .slice oa RR.length oc]) rfl rfl (by rfl) (by rfl) hG7.out size_res rfl (by simp [Value.oneCell']) ?_; intro w9 hb9 hg9; replace hb9 := hide hb9; replace hg9 := hide hg9)
    refine bodyPost_ret (results_cell2 rfl (by rfl) hb9.out Yabn.underlying34 size_res) rfl ?_
    refine ⟨hX7.out.grown hg9.out (fun q hq => by cases hq; omega), .inr ⟨its.length, RR, oa, oc, hex.out, rfl, ?_, hshort.out, hcap⟩⟩
    exact IntsAt.keptB hri.out hab hg9.out (by have := hG6.out.lt; omega)
end Go.Proofs.YbyabwGreat
