/- Walk: spec.PrintQuery -/
import Derived.Test.YbyaawPrnW1
import Derived.Test.YbyaawPrnP7
import Derived.Test.YbyaawQryEq
import Derived.Test.YbyaawDep1
namespace Go.Proofs.Ybyaaw
open Go.RowKit
set_option maxRecDepth 100000
set_option linter.unusedVariables false
set_option linter.unusedSimpArgs false

theorem ItsB.split {nd : List Nd} (m : List (Int × Int)) : ∀ (l : List (Int × Int)) (a b : Nat), ItsB nd a (l ++ m) b → ∃ c, ItsB nd a l c ∧ ItsB nd c m b := by
  intro l
  induction l with
  | nil => intro a b h; exact ⟨a, rfl, h⟩
  | cons it r ih =>
    intro a b h
    rcases h with ⟨h1, h2⟩ | ⟨x, h1, h2, h3, h4, h5⟩
    · obtain ⟨c, k1, k2⟩ := ih _ _ h2
      exact ⟨c, .inl ⟨h1, k1⟩, k2⟩
    · obtain ⟨c, k1, k2⟩ := ih _ _ h5
      exact ⟨c, .inr ⟨x, h1, h2, h3, h4, k1⟩, k2⟩
theorem ItsB.le {nd : List Nd} : ∀ (l : List (Int × Int)) (a b : Nat), a ≤ nd.length → ItsB nd a l b → b ≤ nd.length := by
  intro l
  induction l with
  | nil => intro a b h0 h; cases h; exact h0
  | cons it r ih =>
    intro a b h0 h
    rcases h with ⟨h1, h2⟩ | ⟨x, h1, h2, h3, h4, h5⟩
    · exact ih _ _ h0 h2
    · exact ih _ _ (by have := NB.bound _ _ _ h4; omega) h5
theorem agT_len (g : Int) : (agT g).length ≤ 6 := by
  unfold agT
  repeat' split
  all_goals simp
theorem itsF_len {nd : List Nd} : ∀ (l : List (Int × Int)) (a b : Nat), ItsB nd a l b → (l.flatMap (fun it => [44, 32] ++ itT nd it)).length + 32 * a ≤ 16 * l.length + 32 * b := by
  intro l
  induction l with
  | nil => intro a b h; cases h; simp
  | cons it r ih =>
    intro a b h
    rw [List.flatMap_cons, List.length_append, List.length_append, List.length_cons]
    rcases h with ⟨h1, h2⟩ | ⟨x, h1, h2, h3, h4, h5⟩
    · have := ih _ _ h2
      subst h1
      have e : (itT nd (5, -1)).length = 8 := rfl
      simp only [List.length_cons, List.length_nil] at *
      omega
    · have h6 := ih _ _ h5
      have h7 := pn_len nd _ _ _ h4
      have h8 := agT_len it.1
      have e : (itT nd it).length ≤ 7 + (pn nd (x + 1) x).length := by
        unfold itT
        rw [if_neg (by omega), h3, Int.toNat_natCast]
        split <;> simp only [List.length_append, List.length_cons, List.length_nil] <;> omega
      simp only [List.length_cons, List.length_nil] at *
      omega
theorem jn_le {α β : Type} (sep : List β) (f : α → List β) (l : List α) : (jn sep f l).length ≤ (l.flatMap (fun y => sep ++ f y)).length := by
  cases l with
  | nil => exact Nat.le_refl _
  | cons x r => simp only [jn, List.flatMap_cons, List.length_append]; omega
theorem take_succ_d {α : Type} (l : List α) (d : α) (k : Nat) (h : k < l.length) : l.take (k + 1) = l.take k ++ [l.getD k d] := by
  rw [List.take_succ_eq_append_getElem h, List.getD_eq_getElem?_getD, List.getElem?_eq_getElem h]; rfl
theorem jn_take {α β : Type} (sep : List β) (f : α → List β) (l : List α) (d : α) (k : Nat) (h : k < l.length) (h0 : k ≠ 0) : jn sep f (l.take (k + 1)) = jn sep f (l.take k) ++ sep ++ f (l.getD k d) := by
  rw [take_succ_d l d k h, jn_snoc]
  intro hh
  have := congrArg List.length hh
  simp at this
  rcases this with h1 | h1
  · exact h0 h1
  · subst h1; simp at h
theorem jn_take0 {α β : Type} (sep : List β) (f : α → List β) (l : List α) (d : α) (h : 0 < l.length) : jn sep f (l.take 1) = f (l.getD 0 d) := by
  cases l with
  | nil => simp at h
  | cons x r => simp [jn]
/-- The k-th item, and what is printed ahead of it. -/
theorem ItsB.at {nd : List Nd} {its : List (Int × Int)} {b : Nat} (h : ItsB nd 0 its b) (k : Nat) (hk : k < its.length) : (jn [44, 32] (itT nd) (its.take k)).length ≤ 16 * its.length + 32 * nd.length ∧
    (its.getD k (0, 0) = (5, -1) ∨ ∃ (g : Int) (x c : Nat), its.getD k (0, 0) = (g, (x : Int)) ∧ 0 ≤ g ∧ g ≤ 4 ∧ NB nd (x + 1) c x) := by
  have e : its = its.take k ++ (its.getD k (0, 0) :: its.drop (k + 1)) := by
    rw [List.getD_eq_getElem?_getD, List.getElem?_eq_getElem hk]
    show its = its.take k ++ (its[k] :: its.drop (k + 1))
    rw [← List.drop_eq_getElem_cons hk, List.take_append_drop]
  rw [e] at h
  obtain ⟨c, h1, h2⟩ := ItsB.split _ _ _ _ h
  have hc := ItsB.le _ _ _ (Nat.zero_le _) h1
  have hl := itsF_len _ _ _ h1
  have hj := jn_le [44, 32] (itT nd) (its.take k)
  have ht : (its.take k).length ≤ its.length := by simp; omega
  refine ⟨by omega, ?_⟩
  rcases h2 with ⟨h3, _⟩ | ⟨x, h3, h4, h5, h6, _⟩
  · exact .inl h3
  · refine .inr ⟨_, x, c, ?_, h3, h4, h6⟩
    rw [← h5]
theorem its_len {nd : List Nd} {its : List (Int × Int)} {b : Nat} (h : ItsB nd 0 its b) : (jn [44, 32] (itT nd) its).length ≤ 16 * its.length + 32 * nd.length := by
  have hc := ItsB.le _ _ _ (Nat.zero_le _) h
  have hl := itsF_len _ _ _ h
  have hj := jn_le [44, 32] (itT nd) its
  omega
theorem gr_len {gr : List Int} (h : GrOK gr) : (jn [44, 32] gT gr).length ≤ 16 * gr.length := by
  refine Nat.le_trans (jn_le _ _ _) ?_
  induction gr with
  | nil => simp
  | cons g r ih =>
    rw [List.flatMap_cons, List.length_append, List.length_append, List.length_cons]
    have h1 := ih (fun x hx => h x (by simp [hx]))
    have h2 := h g (by simp)
    have h3 := itoa_len 5 g.toNat (by omega) (by omega)
    have e : (gT g).length = (itoa g.toNat).length + 1 := by simp [gT]
    simp only [List.length_cons, List.length_nil] at *
    omega
theorem GrOK.take {gr : List Int} (h : GrOK gr) (k : Nat) : GrOK (gr.take k) := fun g hg => h g (List.mem_of_mem_take hg)

/-- PrintQuery on its way: the query in its box, the text so far. -/
structure PQ (w wr : World) (cs : List Value) (v : Value) (l : List UInt8) : Prop where
  blk : Blk wr w.heap.size 36 cs
  ex : Ext w wr
  out : OwnW wr (w.heap.size + 1) v l
section
variable {w wr w2 : World} {cs : List Value} {v v2 : Value} {l l2 : List UInt8}
theorem PQ.sz (h : PQ w wr cs v l) : w.heap.size + 1 ≤ wr.heap.size := h.blk.lt
theorem PQ.fr (h : PQ w wr cs v l) (hf : FrU (w.heap.size + 1) wr w2) (ho : OwnB w2 (w.heap.size + 1) v2 l2) : PQ w w2 cs v2 l2 :=
  ⟨hf.blk h.blk (by decide), Below.trans h.ex (But.below hf (fun k hk => by omega) (by have := h.sz; omega)), .inl ho⟩
theorem PQ.ext (h : PQ w wr cs v l) (he : Ext wr w2) : PQ w w2 cs v l := ⟨h.blk.ext he, h.ex.trans he, h.out.ext he⟩
theorem PQ.congr (h : PQ w wr cs v l) (he : l = l2) : PQ w wr cs v l2 := he ▸ h
end
theorem conv_W {w : World} {base : Nat} {a : Option Addr} {cap : Nat} {l : List UInt8} (h : OwnW w base (.slice a l.length cap) l) :
    (convert 22 9 (.slice a l.length cap)).run Yaan.prog w = .ok (.string (tx l)) w := by
  rcases h with h | ⟨g, fr, h1, h2, h3⟩
  · exact conv_any h
  · injection h1 with e1 _ e3
    subst e1 e3
    exact run_convert_bytes_back (P := Yaan.prog) w 22 9 5 ⟨g, 0, none⟩ l.length l Yaan.underlying22 Yaan.underlying5 Yaan.underlying9 (fun j hj => FullB.cell h3 j _ (by simp [bs, List.getElem?_eq_getElem hj]))
theorem NodesAt.low {w : World} {a : Option Addr} {nd : List Nd} (h : NodesAt w a nd) (x : Nat) (hx : x < nd.length) : ∀ p, a = some p → p.block < w.heap.size + 1 := fun p hp => by
  obtain ⟨b, off, e, hc, _⟩ := h.get x hx
  rw [hp] at e
  cases e
  have := cell_lt hc
  exact Nat.lt_succ_of_lt this
theorem printNode (base : Nat) (na : Option Addr) (nc : Nat) (nd : List Nd) (hna : Hid (∀ p, na = some p → p.block < base)) (a x : Nat) (hb : Hid (NB nd (x + 1) a x)) (v : Value) (l : List UInt8) (w : World) (hN : NodesAt w na nd) (hO : OwnW w base v l) (hz : base ≤ w.heap.size) (hnl : nd.length ≤ 65536) (hl : l.length < 2 ^ 37) :
    Calls Yaan.prog 78 #[.slice na nd.length nc, .int .i64 x, v] w (RetB base (l ++ pn nd (x + 1) x) w) :=
  printNodeAll base na nc nd hna (x + 1) a x hb.out v l w hN hO hz (by have := pn_len nd _ _ _ hb.out; have := NB.bound _ _ _ hb.out; omega)

theorem printNodeI (base : Nat) (na : Option Addr) (nc : Nat) (nd : List Nd) (hna : Hid (∀ p, na = some p → p.block < base)) (a x : Nat) (hb : Hid (NB nd (x + 1) a x)) (xi : Int) (hxi : xi = (x : Int)) (v : Value) (l : List UInt8) (w : World) (hN : NodesAt w na nd) (hO : OwnW w base v l) (hz : base ≤ w.heap.size) (hnl : nd.length ≤ 65536) (hl : l.length < 2 ^ 37) :
    Calls Yaan.prog 78 #[.slice na nd.length nc, .int .i64 xi, v] w (RetB base (l ++ pn nd (x + 1) x) w) := by
  subst hxi
  exact printNode base na nc nd hna a x hb v l w hN hO hz hnl hl

set_option maxHeartbeats 16000000 in
theorem PrintQuery (q : Qy) (ia na ga : Option Addr) (ic nc gc : Nat) (w : World) (hq : Hid (QAt w q ia na ga)) (hok : Hid (QOK q)) :
    Calls Yaan.prog 21 #[.agg (qCells q ia na ga ic nc gc).toArray] w (RetStr (qT q) w) := by
  obtain ⟨its, nd, wh, gr, li⟩ := q
  have hl1 := hq.out.li
  have hl2 := hq.out.ln
  have hl3 := hq.out.lg
  simp only at hl1 hl2 hl3
  obtain ⟨bI, hI, hW⟩ := hok.out.wh
  simp only at hI hW
  replace hI := hide hI
  replace hW := hide hW
  have hP : Hid (PQ w ((w.alloc (.cells #[.slice ia its.length ic, .slice na nd.length nc, .int .i64 wh, .slice ga gr.length gc, .int .i64 li] 36)).alloc (.cells #[.int .u8 83, .int .u8 69, .int .u8 76, .int .u8 69, .int .u8 67, .int .u8 84, .int .u8 32] 5 (7, 8))) [.slice ia its.length ic, .slice na nd.length nc, .int .i64 wh, .slice ga gr.length gc, .int .i64 li] (.slice (some ⟨w.heap.size + 1, 0, none⟩) 7 7) sel) := by
    refine ⟨(Blk.new w _ _).alloc _, ((Ext.refl w).alloc _).alloc _, .inr ⟨w.heap.size + 1, (7, 8), rfl, Nat.le_refl _, ?_⟩⟩
    have := heap_alloc_new (w.alloc (.cells #[.slice ia its.length ic, .slice na nd.length nc, .int .i64 wh, .slice ga gr.length gc, .int .i64 li] 36)) (.cells #[.int .u8 83, .int .u8 69, .int .u8 76, .int .u8 69, .int .u8 67, .int .u8 84, .int .u8 32] 5 (7, 8))
    simpa [sel, bs] using this
  have kc : (convert 22 22 (.slice (some ⟨w.heap.size + 1, 0, none⟩) 7 7)).run Yaan.prog ((w.alloc (.cells #[.slice ia its.length ic, .slice na nd.length nc, .int .i64 wh, .slice ga gr.length gc, .int .i64 li] 36)).alloc (.cells #[.int .u8 83, .int .u8 69, .int .u8 76, .int .u8 69, .int .u8 67, .int .u8 84, .int .u8 32] 5)) = .ok (.slice (some ⟨w.heap.size + 1, 0, none⟩) 7 7) ((w.alloc (.cells #[.slice ia its.length ic, .slice na nd.length nc, .int .i64 wh, .slice ga gr.length gc, .int .i64 li] 36)).alloc (.cells #[.int .u8 83, .int .u8 69, .int .u8 76, .int .u8 69, .int .u8 67, .int .u8 84, .int .u8 32] 5 (7, 8))) := by
    have := Go.Lib.run_convert_bytes_const (P := Yaan.prog) (w.alloc (.cells #[.slice ia its.length ic, .slice na nd.length nc, .int .i64 wh, .slice ga gr.length gc, .int .i64 li] 36)) 22 5 #[.int .u8 83, .int .u8 69, .int .u8 76, .int .u8 69, .int .u8 67, .int .u8 84, .int .u8 32] 7 7 Yaan.underlying22 Yaan.underlying5
    simpa using this
  simp only [qCells]
  go_enter Yaan.func21, Yaan.ntmps21
  go_wp2_with fail
  generalize ((w.alloc (.cells #[.slice ia its.length ic, .slice na nd.length nc, .int .i64 wh, .slice ga gr.length gc, .int .i64 li] 36)).alloc (.cells #[.int .u8 83, .int .u8 69, .int .u8 76, .int .u8 69, .int .u8 67, .int .u8 84, .int .u8 32] 5 (7, 8))) = X at *
  clear kc
  go_loopw [3, 4] (fun v i wr => ∃ k : Nat, i = .int .i64 k ∧ k ≤ its.length ∧ Hid (PQ w wr [.slice ia its.length ic, .slice na nd.length nc, .int .i64 wh, .slice ga gr.length gc, .int .i64 li] v (sel ++ jn [44, 32] (itT nd) (its.take k)))) (fun _ i _ => its.length - (intOf i).toNat)
  case atStart => exact ⟨0, rfl, Nat.zero_le _, by simpa [jn] using hP⟩
  clear hP
  obtain ⟨k, rfl, hk, hP⟩ := hrel
  by_cases hlt : k < its.length
  · have hlt' : (k : Int) < its.length := by omega
    obtain ⟨hJl, hitem⟩ := hI.out.at k hlt
    obtain ⟨b, off, hia, cw1, cw2⟩ := hq.out.its k hlt
    simp only at hia cw1 cw2
    subst hia
    have hre0 : k = 0 → Hid (sel ++ jn [44, 32] (itT nd) (its.take (k + 1)) = sel ++ jn [44, 32] (itT nd) (its.take k) ++ itT nd (its.getD k (0, 0))) := fun h0 => by
      subst h0
      show _ = _
      rw [jn_take0 [44, 32] (itT nd) its (0, 0) hlt]
      simp [jn]
    have hre1 : k ≠ 0 → Hid (sel ++ jn [44, 32] (itT nd) (its.take (k + 1)) = sel ++ jn [44, 32] (itT nd) (its.take k) ++ [44, 32] ++ itT nd (its.getD k (0, 0))) := fun h0 => by
      show _ = _
      rw [jn_take [44, 32] (itT nd) its (0, 0) k hlt h0]
      simp
    obtain ⟨J, hJ⟩ : ∃ J, jn [44, 32] (itT nd) (its.take k) = J := ⟨_, rfl⟩
    rw [hJ] at hP hJl hre0 hre1
    clear hJ
    have hb1 : Hid ((sel ++ J).length + 64 < 2 ^ 36) := by show _ < _; have : sel.length = 7 := rfl; simp only [List.length_append]; omega
    rcases hitem with h5 | ⟨g, x, c, hgx, g0, g4, hnb⟩
    · rw [h5] at cw1 cw2 hre0 hre1
      simp only at cw1 cw2
      replace cw1 := hide cw1
      replace cw2 := hide cw2
      have hpb : Hid (0 < 1) := Nat.one_pos
      clear h5
      by_cases hk0 : k = 0
      · skip
        subst hk0
        have hre := hre0 rfl
        clear hre0 hre1
        have q0 := hP.out.blk.box 0 _ rfl
        have c1 := hP.out.ex.cell cw1.out
        have c2 := hP.out.ex.cell cw2.out
        simp only [Nat.zero_mul, Nat.add_zero] at c1 c2
        have hT : Hid (Blk (wr.alloc (.cells #[.int .i64 5, .int .i64 (-1)] 45)) wr.heap.size 45 [.int .i64 5, .int .i64 (-1)]) := Blk.new wr _ _
        have hPa := hide (hP.out.ext ((Ext.refl wr).alloc (.cells #[.int .i64 5, .int .i64 (-1)] 45)))
        have t0 := hT.out.box 0 _ rfl
        have t1 := hT.out.box 1 _ rfl
        have q1 := hPa.out.blk.box 1 _ rfl
        clear hP
        have hP := hPa
        clear hPa
        go_wp2_with (
          at_builtin
          refine app_strW rfl rfl (w.heap.size + 1) hP.out.sz u3 (sel ++ J) ([67, 79, 85, 78, 84, 40, 42, 41]) rfl hP.out.out rfl (by simp) (by have := hb1.out; have := hpb.out; simp only [List.length_append, List.length_cons, List.length_nil] at *; omega) ?_
          intro v6 w6 O9 F9
          have hP9 := hide (hP.out.fr F9 O9)
          clear hP
          have hP := hP9
          clear hP9 O9
          clear F9)
        go_roundw
        case rel => exact ⟨0 + 1, by go_num, by omega, hP.out.congr (l2 := sel ++ jn [44, 32] (itT nd) (its.take (0 + 1))) (by rw [hre.out]; simp [itT, agT])⟩
        case measure => simp [intOf]; omega
      · skip
        have hre := hre1 hk0
        clear hre0 hre1
        have hk0' : (0 : Int) < k := by omega
        have q0 := hP.out.blk.box 0 _ rfl
        go_wp2_with (first
          | (
             at_builtin
             refine app_strW rfl rfl (w.heap.size + 1) hP.out.sz u3 (sel ++ J) ([44, 32]) rfl hP.out.out rfl (by simp) (by have := hb1.out; have := hpb.out; simp only [List.length_append, List.length_cons, List.length_nil] at *; omega) ?_
             intro v5 w5 O9 F9
             have hP9 := hide (hP.out.fr F9 O9)
             clear hP
             have hP := hP9
             clear hP9 O9
             clear F9 q0
             have q0 := hP.out.blk.box 0 _ rfl
             have c1 := hP.out.ex.cell cw1.out
             have c2 := hP.out.ex.cell cw2.out
             have hT : Hid (Blk (w5.alloc (.cells #[.int .i64 5, .int .i64 (-1)] 45)) w5.heap.size 45 [.int .i64 5, .int .i64 (-1)]) := Blk.new w5 _ _
             have hPa := hide (hP.out.ext ((Ext.refl w5).alloc (.cells #[.int .i64 5, .int .i64 (-1)] 45)))
             have t0 := hT.out.box 0 _ rfl
             have t1 := hT.out.box 1 _ rfl
             have q1 := hPa.out.blk.box 1 _ rfl
             clear hP
             have hP := hPa
             clear hPa
            )
          | (
             at_builtin
             refine app_strW rfl rfl (w.heap.size + 1) hP.out.sz v5 (sel ++ J ++ [44, 32]) ([67, 79, 85, 78, 84, 40, 42, 41]) rfl hP.out.out rfl (by simp) (by have := hb1.out; have := hpb.out; simp only [List.length_append, List.length_cons, List.length_nil] at *; omega) ?_
             intro v6 w6 O9 F9
             have hP9 := hide (hP.out.fr F9 O9)
             clear hP
             have hP := hP9
             clear hP9 O9
             clear F9
            ))
        go_roundw
        case rel => exact ⟨k + 1, by go_num, by omega, hP.out.congr (l2 := sel ++ jn [44, 32] (itT nd) (its.take (k + 1))) (by rw [hre.out]; simp [itT, agT])⟩
        case measure => simp [intOf]; omega
    · rw [hgx] at cw1 cw2 hre0 hre1
      simp only at cw1 cw2
      replace cw1 := hide cw1
      replace cw2 := hide cw2
      have hxb := NB.bound _ _ _ hnb
      have hpb : Hid ((pn nd (x + 1) x).length ≤ 2097152) := by have := pn_len nd _ _ _ hnb; show _ ≤ _; omega
      have hlow := hide (hq.out.nd.low x hxb.2)
      replace hnb := hide hnb
      clear hgx hxb
      have hg : g = 0 ∨ g = 1 ∨ g = 2 ∨ g = 3 ∨ g = 4 := by omega
      clear g0 g4
      rcases hg with rfl | rfl | rfl | rfl | rfl
      · skip
        by_cases hk0 : k = 0
        · skip
          subst hk0
          have hre := hre0 rfl
          clear hre0 hre1
          have q0 := hP.out.blk.box 0 _ rfl
          have c1 := hP.out.ex.cell cw1.out
          have c2 := hP.out.ex.cell cw2.out
          simp only [Nat.zero_mul, Nat.add_zero] at c1 c2
          have hT : Hid (Blk (wr.alloc (.cells #[.int .i64 0, .int .i64 (x : Int)] 45)) wr.heap.size 45 [.int .i64 0, .int .i64 (x : Int)]) := Blk.new wr _ _
          have hPa := hide (hP.out.ext ((Ext.refl wr).alloc (.cells #[.int .i64 0, .int .i64 (x : Int)] 45)))
          have t0 := hT.out.box 0 _ rfl
          have t1 := hT.out.box 1 _ rfl
          have q1 := hPa.out.blk.box 1 _ rfl
          clear hP
          have hP := hPa
          clear hPa
          go_wp2_with fail
          refine (printNodeI (w.heap.size + 1) na nc nd hlow c x hnb (x : Int) rfl u3 (sel ++ J) (wr.alloc (.cells #[.int .i64 0, .int .i64 (x : Int)] 45)) (hq.out.nd.ext hP.out.ex) hP.out.out hP.out.sz hl2 (by have := hb1.out; have := hpb.out; simp only [List.length_append, List.length_cons, List.length_nil] at *; omega)).mono ?_
          rintro e w7 ⟨v7, rfl, O9, F9⟩
          have hT9 := hide (F9.blk hT.out (by decide))
          have hP9 := hide (hP.out.fr F9 O9)
          clear hT hP O9 F9 t1 q1
          have hT := hT9
          have hP := hP9
          clear hT9 hP9
          have t0 := hT.out.box 0 _ rfl
          go_wp2_with fail
          go_roundw
          case rel => exact ⟨0 + 1, by go_num, by omega, hP.out.congr (l2 := sel ++ jn [44, 32] (itT nd) (its.take (0 + 1))) (by rw [hre.out]; simp [itT, agT])⟩
          case measure => simp [intOf]; omega
        · skip
          have hre := hre1 hk0
          clear hre0 hre1
          have hk0' : (0 : Int) < k := by omega
          have q0 := hP.out.blk.box 0 _ rfl
          go_wp2_with (
            at_builtin
            refine app_strW rfl rfl (w.heap.size + 1) hP.out.sz u3 (sel ++ J) ([44, 32]) rfl hP.out.out rfl (by simp) (by have := hb1.out; have := hpb.out; simp only [List.length_append, List.length_cons, List.length_nil] at *; omega) ?_
            intro v5 w5 O9 F9
            have hP9 := hide (hP.out.fr F9 O9)
            clear hP
            have hP := hP9
            clear hP9 O9
            clear F9 q0
            have q0 := hP.out.blk.box 0 _ rfl
            have c1 := hP.out.ex.cell cw1.out
            have c2 := hP.out.ex.cell cw2.out
            have hT : Hid (Blk (w5.alloc (.cells #[.int .i64 0, .int .i64 (x : Int)] 45)) w5.heap.size 45 [.int .i64 0, .int .i64 (x : Int)]) := Blk.new w5 _ _
            have hPa := hide (hP.out.ext ((Ext.refl w5).alloc (.cells #[.int .i64 0, .int .i64 (x : Int)] 45)))
            have t0 := hT.out.box 0 _ rfl
            have t1 := hT.out.box 1 _ rfl
            have q1 := hPa.out.blk.box 1 _ rfl
            clear hP
            have hP := hPa
            clear hPa
            )
          refine (printNodeI (w.heap.size + 1) na nc nd hlow c x hnb (x : Int) rfl v5 (sel ++ J ++ [44, 32]) (w5.alloc (.cells #[.int .i64 0, .int .i64 (x : Int)] 45)) (hq.out.nd.ext hP.out.ex) hP.out.out hP.out.sz hl2 (by have := hb1.out; have := hpb.out; simp only [List.length_append, List.length_cons, List.length_nil] at *; omega)).mono ?_
          rintro e w7 ⟨v7, rfl, O9, F9⟩
          have hT9 := hide (F9.blk hT.out (by decide))
          have hP9 := hide (hP.out.fr F9 O9)
          clear hT hP O9 F9 t1 q1
          have hT := hT9
          have hP := hP9
          clear hT9 hP9
          have t0 := hT.out.box 0 _ rfl
          go_wp2_with fail
          go_roundw
          case rel => exact ⟨k + 1, by go_num, by omega, hP.out.congr (l2 := sel ++ jn [44, 32] (itT nd) (its.take (k + 1))) (by rw [hre.out]; simp [itT, agT])⟩
          case measure => simp [intOf]; omega
      · skip
        by_cases hk0 : k = 0
        · skip
          subst hk0
          have hre := hre0 rfl
          clear hre0 hre1
          have q0 := hP.out.blk.box 0 _ rfl
          have c1 := hP.out.ex.cell cw1.out
          have c2 := hP.out.ex.cell cw2.out
          simp only [Nat.zero_mul, Nat.add_zero] at c1 c2
          have hT : Hid (Blk (wr.alloc (.cells #[.int .i64 1, .int .i64 (x : Int)] 45)) wr.heap.size 45 [.int .i64 1, .int .i64 (x : Int)]) := Blk.new wr _ _
          have hPa := hide (hP.out.ext ((Ext.refl wr).alloc (.cells #[.int .i64 1, .int .i64 (x : Int)] 45)))
          have t0 := hT.out.box 0 _ rfl
          have t1 := hT.out.box 1 _ rfl
          have q1 := hPa.out.blk.box 1 _ rfl
          clear hP
          have hP := hPa
          clear hPa
          go_wp2_with (
            at_builtin
            refine app_strW rfl rfl (w.heap.size + 1) hP.out.sz u3 (sel ++ J) ([83, 85, 77, 40]) rfl hP.out.out rfl (by simp) (by have := hb1.out; have := hpb.out; simp only [List.length_append, List.length_cons, List.length_nil] at *; omega) ?_
            intro v6 w6 O9 F9
            have hP9 := hide (hP.out.fr F9 O9)
            clear hP
            have hP := hP9
            clear hP9 O9
            have hT9 := hide (F9.blk hT.out (by decide))
            clear hT t0 t1 q1 F9
            have hT := hT9
            clear hT9
            have t1 := hT.out.box 1 _ rfl
            have q1 := hP.out.blk.box 1 _ rfl
            )
          refine (printNodeI (w.heap.size + 1) na nc nd hlow c x hnb (x : Int) rfl v6 (sel ++ J ++ [83, 85, 77, 40]) w6 (hq.out.nd.ext hP.out.ex) hP.out.out hP.out.sz hl2 (by have := hb1.out; have := hpb.out; simp only [List.length_append, List.length_cons, List.length_nil] at *; omega)).mono ?_
          rintro e w7 ⟨v7, rfl, O9, F9⟩
          have hT9 := hide (F9.blk hT.out (by decide))
          have hP9 := hide (hP.out.fr F9 O9)
          clear hT hP O9 F9 t1 q1
          have hT := hT9
          have hP := hP9
          clear hT9 hP9
          have t0 := hT.out.box 0 _ rfl
          go_wp2_with (
            at_builtin
            refine app_byteW rfl rfl (w.heap.size + 1) (by have := hP.out.sz; simp; omega) v7 (sel ++ J ++ [83, 85, 77, 40] ++ pn nd (x + 1) x) 41 41 rfl rfl (OwnW.alloc hP.out.out _) w7.heap.size 1 (by rfl) (heap_alloc_new w7 _) (by have := hb1.out; have := hpb.out; simp only [List.length_append, List.length_cons, List.length_nil] at *; omega) ?_
            intro v8 w8 O9 F9
            have hP9 := hide ((hP.out.ext ((Ext.refl w7).alloc _)).fr F9 O9)
            clear hP O9 F9 t0
            have hP := hP9
            clear hP9)
          go_roundw
          case rel => exact ⟨0 + 1, by go_num, by omega, hP.out.congr (l2 := sel ++ jn [44, 32] (itT nd) (its.take (0 + 1))) (by rw [hre.out]; simp [itT, agT])⟩
          case measure => simp [intOf]; omega
        · skip
          have hre := hre1 hk0
          clear hre0 hre1
          have hk0' : (0 : Int) < k := by omega
          have q0 := hP.out.blk.box 0 _ rfl
          go_wp2_with (first
            | (
               at_builtin
               refine app_strW rfl rfl (w.heap.size + 1) hP.out.sz u3 (sel ++ J) ([44, 32]) rfl hP.out.out rfl (by simp) (by have := hb1.out; have := hpb.out; simp only [List.length_append, List.length_cons, List.length_nil] at *; omega) ?_
               intro v5 w5 O9 F9
               have hP9 := hide (hP.out.fr F9 O9)
               clear hP
               have hP := hP9
               clear hP9 O9
               clear F9 q0
               have q0 := hP.out.blk.box 0 _ rfl
               have c1 := hP.out.ex.cell cw1.out
               have c2 := hP.out.ex.cell cw2.out
               have hT : Hid (Blk (w5.alloc (.cells #[.int .i64 1, .int .i64 (x : Int)] 45)) w5.heap.size 45 [.int .i64 1, .int .i64 (x : Int)]) := Blk.new w5 _ _
               have hPa := hide (hP.out.ext ((Ext.refl w5).alloc (.cells #[.int .i64 1, .int .i64 (x : Int)] 45)))
               have t0 := hT.out.box 0 _ rfl
               have t1 := hT.out.box 1 _ rfl
               have q1 := hPa.out.blk.box 1 _ rfl
               clear hP
               have hP := hPa
               clear hPa
              )
            | (
               at_builtin
               refine app_strW rfl rfl (w.heap.size + 1) hP.out.sz v5 (sel ++ J ++ [44, 32]) ([83, 85, 77, 40]) rfl hP.out.out rfl (by simp) (by have := hb1.out; have := hpb.out; simp only [List.length_append, List.length_cons, List.length_nil] at *; omega) ?_
               intro v6 w6 O9 F9
               have hP9 := hide (hP.out.fr F9 O9)
               clear hP
               have hP := hP9
               clear hP9 O9
               have hT9 := hide (F9.blk hT.out (by decide))
               clear hT t0 t1 q1 F9
               have hT := hT9
               clear hT9
               have t1 := hT.out.box 1 _ rfl
               have q1 := hP.out.blk.box 1 _ rfl
              ))
          refine (printNodeI (w.heap.size + 1) na nc nd hlow c x hnb (x : Int) rfl v6 (sel ++ J ++ [44, 32] ++ [83, 85, 77, 40]) w6 (hq.out.nd.ext hP.out.ex) hP.out.out hP.out.sz hl2 (by have := hb1.out; have := hpb.out; simp only [List.length_append, List.length_cons, List.length_nil] at *; omega)).mono ?_
          rintro e w7 ⟨v7, rfl, O9, F9⟩
          have hT9 := hide (F9.blk hT.out (by decide))
          have hP9 := hide (hP.out.fr F9 O9)
          clear hT hP O9 F9 t1 q1
          have hT := hT9
          have hP := hP9
          clear hT9 hP9
          have t0 := hT.out.box 0 _ rfl
          go_wp2_with (
            at_builtin
            refine app_byteW rfl rfl (w.heap.size + 1) (by have := hP.out.sz; simp; omega) v7 (sel ++ J ++ [44, 32] ++ [83, 85, 77, 40] ++ pn nd (x + 1) x) 41 41 rfl rfl (OwnW.alloc hP.out.out _) w7.heap.size 1 (by rfl) (heap_alloc_new w7 _) (by have := hb1.out; have := hpb.out; simp only [List.length_append, List.length_cons, List.length_nil] at *; omega) ?_
            intro v8 w8 O9 F9
            have hP9 := hide ((hP.out.ext ((Ext.refl w7).alloc _)).fr F9 O9)
            clear hP O9 F9 t0
            have hP := hP9
            clear hP9)
          go_roundw
          case rel => exact ⟨k + 1, by go_num, by omega, hP.out.congr (l2 := sel ++ jn [44, 32] (itT nd) (its.take (k + 1))) (by rw [hre.out]; simp [itT, agT])⟩
          case measure => simp [intOf]; omega
      · skip
        by_cases hk0 : k = 0
        · skip
          subst hk0
          have hre := hre0 rfl
          clear hre0 hre1
          have q0 := hP.out.blk.box 0 _ rfl
          have c1 := hP.out.ex.cell cw1.out
          have c2 := hP.out.ex.cell cw2.out
          simp only [Nat.zero_mul, Nat.add_zero] at c1 c2
          have hT : Hid (Blk (wr.alloc (.cells #[.int .i64 2, .int .i64 (x : Int)] 45)) wr.heap.size 45 [.int .i64 2, .int .i64 (x : Int)]) := Blk.new wr _ _
          have hPa := hide (hP.out.ext ((Ext.refl wr).alloc (.cells #[.int .i64 2, .int .i64 (x : Int)] 45)))
          have t0 := hT.out.box 0 _ rfl
          have t1 := hT.out.box 1 _ rfl
          have q1 := hPa.out.blk.box 1 _ rfl
          clear hP
          have hP := hPa
          clear hPa
          go_wp2_with (
            at_builtin
            refine app_strW rfl rfl (w.heap.size + 1) hP.out.sz u3 (sel ++ J) ([77, 73, 78, 40]) rfl hP.out.out rfl (by simp) (by have := hb1.out; have := hpb.out; simp only [List.length_append, List.length_cons, List.length_nil] at *; omega) ?_
            intro v6 w6 O9 F9
            have hP9 := hide (hP.out.fr F9 O9)
            clear hP
            have hP := hP9
            clear hP9 O9
            have hT9 := hide (F9.blk hT.out (by decide))
            clear hT t0 t1 q1 F9
            have hT := hT9
            clear hT9
            have t1 := hT.out.box 1 _ rfl
            have q1 := hP.out.blk.box 1 _ rfl
            )
          refine (printNodeI (w.heap.size + 1) na nc nd hlow c x hnb (x : Int) rfl v6 (sel ++ J ++ [77, 73, 78, 40]) w6 (hq.out.nd.ext hP.out.ex) hP.out.out hP.out.sz hl2 (by have := hb1.out; have := hpb.out; simp only [List.length_append, List.length_cons, List.length_nil] at *; omega)).mono ?_
          rintro e w7 ⟨v7, rfl, O9, F9⟩
          have hT9 := hide (F9.blk hT.out (by decide))
          have hP9 := hide (hP.out.fr F9 O9)
          clear hT hP O9 F9 t1 q1
          have hT := hT9
          have hP := hP9
          clear hT9 hP9
          have t0 := hT.out.box 0 _ rfl
          go_wp2_with (
            at_builtin
            refine app_byteW rfl rfl (w.heap.size + 1) (by have := hP.out.sz; simp; omega) v7 (sel ++ J ++ [77, 73, 78, 40] ++ pn nd (x + 1) x) 41 41 rfl rfl (OwnW.alloc hP.out.out _) w7.heap.size 1 (by rfl) (heap_alloc_new w7 _) (by have := hb1.out; have := hpb.out; simp only [List.length_append, List.length_cons, List.length_nil] at *; omega) ?_
            intro v8 w8 O9 F9
            have hP9 := hide ((hP.out.ext ((Ext.refl w7).alloc _)).fr F9 O9)
            clear hP O9 F9 t0
            have hP := hP9
            clear hP9)
          go_roundw
          case rel => exact ⟨0 + 1, by go_num, by omega, hP.out.congr (l2 := sel ++ jn [44, 32] (itT nd) (its.take (0 + 1))) (by rw [hre.out]; simp [itT, agT])⟩
          case measure => simp [intOf]; omega
        · skip
          have hre := hre1 hk0
          clear hre0 hre1
          have hk0' : (0 : Int) < k := by omega
          have q0 := hP.out.blk.box 0 _ rfl
          go_wp2_with (first
            | (
               at_builtin
               refine app_strW rfl rfl (w.heap.size + 1) hP.out.sz u3 (sel ++ J) ([44, 32]) rfl hP.out.out rfl (by simp) (by have := hb1.out; have := hpb.out; simp only [List.length_append, List.length_cons, List.length_nil] at *; omega) ?_
               intro v5 w5 O9 F9
               have hP9 := hide (hP.out.fr F9 O9)
               clear hP
               have hP := hP9
               clear hP9 O9
               clear F9 q0
               have q0 := hP.out.blk.box 0 _ rfl
               have c1 := hP.out.ex.cell cw1.out
               have c2 := hP.out.ex.cell cw2.out
               have hT : Hid (Blk (w5.alloc (.cells #[.int .i64 2, .int .i64 (x : Int)] 45)) w5.heap.size 45 [.int .i64 2, .int .i64 (x : Int)]) := Blk.new w5 _ _
               have hPa := hide (hP.out.ext ((Ext.refl w5).alloc (.cells #[.int .i64 2, .int .i64 (x : Int)] 45)))
               have t0 := hT.out.box 0 _ rfl
               have t1 := hT.out.box 1 _ rfl
               have q1 := hPa.out.blk.box 1 _ rfl
               clear hP
               have hP := hPa
               clear hPa
              )
            | (
               at_builtin
               refine app_strW rfl rfl (w.heap.size + 1) hP.out.sz v5 (sel ++ J ++ [44, 32]) ([77, 73, 78, 40]) rfl hP.out.out rfl (by simp) (by have := hb1.out; have := hpb.out; simp only [List.length_append, List.length_cons, List.length_nil] at *; omega) ?_
               intro v6 w6 O9 F9
               have hP9 := hide (hP.out.fr F9 O9)
               clear hP
               have hP := hP9
               clear hP9 O9
               have hT9 := hide (F9.blk hT.out (by decide))
               clear hT t0 t1 q1 F9
               have hT := hT9
               clear hT9
               have t1 := hT.out.box 1 _ rfl
               have q1 := hP.out.blk.box 1 _ rfl
              ))
          refine (printNodeI (w.heap.size + 1) na nc nd hlow c x hnb (x : Int) rfl v6 (sel ++ J ++ [44, 32] ++ [77, 73, 78, 40]) w6 (hq.out.nd.ext hP.out.ex) hP.out.out hP.out.sz hl2 (by have := hb1.out; have := hpb.out; simp only [List.length_append, List.length_cons, List.length_nil] at *; omega)).mono ?_
          rintro e w7 ⟨v7, rfl, O9, F9⟩
          have hT9 := hide (F9.blk hT.out (by decide))
          have hP9 := hide (hP.out.fr F9 O9)
          clear hT hP O9 F9 t1 q1
          have hT := hT9
          have hP := hP9
          clear hT9 hP9
          have t0 := hT.out.box 0 _ rfl
          go_wp2_with (
            at_builtin
            refine app_byteW rfl rfl (w.heap.size + 1) (by have := hP.out.sz; simp; omega) v7 (sel ++ J ++ [44, 32] ++ [77, 73, 78, 40] ++ pn nd (x + 1) x) 41 41 rfl rfl (OwnW.alloc hP.out.out _) w7.heap.size 1 (by rfl) (heap_alloc_new w7 _) (by have := hb1.out; have := hpb.out; simp only [List.length_append, List.length_cons, List.length_nil] at *; omega) ?_
            intro v8 w8 O9 F9
            have hP9 := hide ((hP.out.ext ((Ext.refl w7).alloc _)).fr F9 O9)
            clear hP O9 F9 t0
            have hP := hP9
            clear hP9)
          go_roundw
          case rel => exact ⟨k + 1, by go_num, by omega, hP.out.congr (l2 := sel ++ jn [44, 32] (itT nd) (its.take (k + 1))) (by rw [hre.out]; simp [itT, agT])⟩
          case measure => simp [intOf]; omega
      · skip
        by_cases hk0 : k = 0
        · skip
          subst hk0
          have hre := hre0 rfl
          clear hre0 hre1
          have q0 := hP.out.blk.box 0 _ rfl
          have c1 := hP.out.ex.cell cw1.out
          have c2 := hP.out.ex.cell cw2.out
          simp only [Nat.zero_mul, Nat.add_zero] at c1 c2
          have hT : Hid (Blk (wr.alloc (.cells #[.int .i64 3, .int .i64 (x : Int)] 45)) wr.heap.size 45 [.int .i64 3, .int .i64 (x : Int)]) := Blk.new wr _ _
          have hPa := hide (hP.out.ext ((Ext.refl wr).alloc (.cells #[.int .i64 3, .int .i64 (x : Int)] 45)))
          have t0 := hT.out.box 0 _ rfl
          have t1 := hT.out.box 1 _ rfl
          have q1 := hPa.out.blk.box 1 _ rfl
          clear hP
          have hP := hPa
          clear hPa
          go_wp2_with (
            at_builtin
            refine app_strW rfl rfl (w.heap.size + 1) hP.out.sz u3 (sel ++ J) ([77, 65, 88, 40]) rfl hP.out.out rfl (by simp) (by have := hb1.out; have := hpb.out; simp only [List.length_append, List.length_cons, List.length_nil] at *; omega) ?_
            intro v6 w6 O9 F9
            have hP9 := hide (hP.out.fr F9 O9)
            clear hP
            have hP := hP9
            clear hP9 O9
            have hT9 := hide (F9.blk hT.out (by decide))
            clear hT t0 t1 q1 F9
            have hT := hT9
            clear hT9
            have t1 := hT.out.box 1 _ rfl
            have q1 := hP.out.blk.box 1 _ rfl
            )
          refine (printNodeI (w.heap.size + 1) na nc nd hlow c x hnb (x : Int) rfl v6 (sel ++ J ++ [77, 65, 88, 40]) w6 (hq.out.nd.ext hP.out.ex) hP.out.out hP.out.sz hl2 (by have := hb1.out; have := hpb.out; simp only [List.length_append, List.length_cons, List.length_nil] at *; omega)).mono ?_
          rintro e w7 ⟨v7, rfl, O9, F9⟩
          have hT9 := hide (F9.blk hT.out (by decide))
          have hP9 := hide (hP.out.fr F9 O9)
          clear hT hP O9 F9 t1 q1
          have hT := hT9
          have hP := hP9
          clear hT9 hP9
          have t0 := hT.out.box 0 _ rfl
          go_wp2_with (
            at_builtin
            refine app_byteW rfl rfl (w.heap.size + 1) (by have := hP.out.sz; simp; omega) v7 (sel ++ J ++ [77, 65, 88, 40] ++ pn nd (x + 1) x) 41 41 rfl rfl (OwnW.alloc hP.out.out _) w7.heap.size 1 (by rfl) (heap_alloc_new w7 _) (by have := hb1.out; have := hpb.out; simp only [List.length_append, List.length_cons, List.length_nil] at *; omega) ?_
            intro v8 w8 O9 F9
            have hP9 := hide ((hP.out.ext ((Ext.refl w7).alloc _)).fr F9 O9)
            clear hP O9 F9 t0
            have hP := hP9
            clear hP9)
          go_roundw
          case rel => exact ⟨0 + 1, by go_num, by omega, hP.out.congr (l2 := sel ++ jn [44, 32] (itT nd) (its.take (0 + 1))) (by rw [hre.out]; simp [itT, agT])⟩
          case measure => simp [intOf]; omega
        · skip
          have hre := hre1 hk0
          clear hre0 hre1
          have hk0' : (0 : Int) < k := by omega
          have q0 := hP.out.blk.box 0 _ rfl
          go_wp2_with (first
            | (
               at_builtin
               refine app_strW rfl rfl (w.heap.size + 1) hP.out.sz u3 (sel ++ J) ([44, 32]) rfl hP.out.out rfl (by simp) (by have := hb1.out; have := hpb.out; simp only [List.length_append, List.length_cons, List.length_nil] at *; omega) ?_
               intro v5 w5 O9 F9
               have hP9 := hide (hP.out.fr F9 O9)
               clear hP
               have hP := hP9
               clear hP9 O9
               clear F9 q0
               have q0 := hP.out.blk.box 0 _ rfl
               have c1 := hP.out.ex.cell cw1.out
               have c2 := hP.out.ex.cell cw2.out
               have hT : Hid (Blk (w5.alloc (.cells #[.int .i64 3, .int .i64 (x : Int)] 45)) w5.heap.size 45 [.int .i64 3, .int .i64 (x : Int)]) := Blk.new w5 _ _
               have hPa := hide (hP.out.ext ((Ext.refl w5).alloc (.cells #[.int .i64 3, .int .i64 (x : Int)] 45)))
               have t0 := hT.out.box 0 _ rfl
               have t1 := hT.out.box 1 _ rfl
               have q1 := hPa.out.blk.box 1 _ rfl
               clear hP
               have hP := hPa
               clear hPa
              )
            | (
               at_builtin
               refine app_strW rfl rfl (w.heap.size + 1) hP.out.sz v5 (sel ++ J ++ [44, 32]) ([77, 65, 88, 40]) rfl hP.out.out rfl (by simp) (by have := hb1.out; have := hpb.out; simp only [List.length_append, List.length_cons, List.length_nil] at *; omega) ?_
               intro v6 w6 O9 F9
               have hP9 := hide (hP.out.fr F9 O9)
               clear hP
               have hP := hP9
               clear hP9 O9
               have hT9 := hide (F9.blk hT.out (by decide))
               clear hT t0 t1 q1 F9
               have hT := hT9
               clear hT9
               have t1 := hT.out.box 1 _ rfl
               have q1 := hP.out.blk.box 1 _ rfl
              ))
          refine (printNodeI (w.heap.size + 1) na nc nd hlow c x hnb (x : Int) rfl v6 (sel ++ J ++ [44, 32] ++ [77, 65, 88, 40]) w6 (hq.out.nd.ext hP.out.ex) hP.out.out hP.out.sz hl2 (by have := hb1.out; have := hpb.out; simp only [List.length_append, List.length_cons, List.length_nil] at *; omega)).mono ?_
          rintro e w7 ⟨v7, rfl, O9, F9⟩
          have hT9 := hide (F9.blk hT.out (by decide))
          have hP9 := hide (hP.out.fr F9 O9)
          clear hT hP O9 F9 t1 q1
          have hT := hT9
          have hP := hP9
          clear hT9 hP9
          have t0 := hT.out.box 0 _ rfl
          go_wp2_with (
            at_builtin
            refine app_byteW rfl rfl (w.heap.size + 1) (by have := hP.out.sz; simp; omega) v7 (sel ++ J ++ [44, 32] ++ [77, 65, 88, 40] ++ pn nd (x + 1) x) 41 41 rfl rfl (OwnW.alloc hP.out.out _) w7.heap.size 1 (by rfl) (heap_alloc_new w7 _) (by have := hb1.out; have := hpb.out; simp only [List.length_append, List.length_cons, List.length_nil] at *; omega) ?_
            intro v8 w8 O9 F9
            have hP9 := hide ((hP.out.ext ((Ext.refl w7).alloc _)).fr F9 O9)
            clear hP O9 F9 t0
            have hP := hP9
            clear hP9)
          go_roundw
          case rel => exact ⟨k + 1, by go_num, by omega, hP.out.congr (l2 := sel ++ jn [44, 32] (itT nd) (its.take (k + 1))) (by rw [hre.out]; simp [itT, agT])⟩
          case measure => simp [intOf]; omega
      · skip
        by_cases hk0 : k = 0
        · skip
          subst hk0
          have hre := hre0 rfl
          clear hre0 hre1
          have q0 := hP.out.blk.box 0 _ rfl
          have c1 := hP.out.ex.cell cw1.out
          have c2 := hP.out.ex.cell cw2.out
          simp only [Nat.zero_mul, Nat.add_zero] at c1 c2
          have hT : Hid (Blk (wr.alloc (.cells #[.int .i64 4, .int .i64 (x : Int)] 45)) wr.heap.size 45 [.int .i64 4, .int .i64 (x : Int)]) := Blk.new wr _ _
          have hPa := hide (hP.out.ext ((Ext.refl wr).alloc (.cells #[.int .i64 4, .int .i64 (x : Int)] 45)))
          have t0 := hT.out.box 0 _ rfl
          have t1 := hT.out.box 1 _ rfl
          have q1 := hPa.out.blk.box 1 _ rfl
          clear hP
          have hP := hPa
          clear hPa
          go_wp2_with (
            at_builtin
            refine app_strW rfl rfl (w.heap.size + 1) hP.out.sz u3 (sel ++ J) ([67, 79, 85, 78, 84, 40]) rfl hP.out.out rfl (by simp) (by have := hb1.out; have := hpb.out; simp only [List.length_append, List.length_cons, List.length_nil] at *; omega) ?_
            intro v6 w6 O9 F9
            have hP9 := hide (hP.out.fr F9 O9)
            clear hP
            have hP := hP9
            clear hP9 O9
            have hT9 := hide (F9.blk hT.out (by decide))
            clear hT t0 t1 q1 F9
            have hT := hT9
            clear hT9
            have t1 := hT.out.box 1 _ rfl
            have q1 := hP.out.blk.box 1 _ rfl
            )
          refine (printNodeI (w.heap.size + 1) na nc nd hlow c x hnb (x : Int) rfl v6 (sel ++ J ++ [67, 79, 85, 78, 84, 40]) w6 (hq.out.nd.ext hP.out.ex) hP.out.out hP.out.sz hl2 (by have := hb1.out; have := hpb.out; simp only [List.length_append, List.length_cons, List.length_nil] at *; omega)).mono ?_
          rintro e w7 ⟨v7, rfl, O9, F9⟩
          have hT9 := hide (F9.blk hT.out (by decide))
          have hP9 := hide (hP.out.fr F9 O9)
          clear hT hP O9 F9 t1 q1
          have hT := hT9
          have hP := hP9
          clear hT9 hP9
          have t0 := hT.out.box 0 _ rfl
          go_wp2_with (
            at_builtin
            refine app_byteW rfl rfl (w.heap.size + 1) (by have := hP.out.sz; simp; omega) v7 (sel ++ J ++ [67, 79, 85, 78, 84, 40] ++ pn nd (x + 1) x) 41 41 rfl rfl (OwnW.alloc hP.out.out _) w7.heap.size 1 (by rfl) (heap_alloc_new w7 _) (by have := hb1.out; have := hpb.out; simp only [List.length_append, List.length_cons, List.length_nil] at *; omega) ?_
            intro v8 w8 O9 F9
            have hP9 := hide ((hP.out.ext ((Ext.refl w7).alloc _)).fr F9 O9)
            clear hP O9 F9 t0
            have hP := hP9
            clear hP9)
          go_roundw
          case rel => exact ⟨0 + 1, by go_num, by omega, hP.out.congr (l2 := sel ++ jn [44, 32] (itT nd) (its.take (0 + 1))) (by rw [hre.out]; simp [itT, agT])⟩
          case measure => simp [intOf]; omega
        · skip
          have hre := hre1 hk0
          clear hre0 hre1
          have hk0' : (0 : Int) < k := by omega
          have q0 := hP.out.blk.box 0 _ rfl
          go_wp2_with (first
            | (
               at_builtin
               refine app_strW rfl rfl (w.heap.size + 1) hP.out.sz u3 (sel ++ J) ([44, 32]) rfl hP.out.out rfl (by simp) (by have := hb1.out; have := hpb.out; simp only [List.length_append, List.length_cons, List.length_nil] at *; omega) ?_
               intro v5 w5 O9 F9
               have hP9 := hide (hP.out.fr F9 O9)
               clear hP
               have hP := hP9
               clear hP9 O9
               clear F9 q0
               have q0 := hP.out.blk.box 0 _ rfl
               have c1 := hP.out.ex.cell cw1.out
               have c2 := hP.out.ex.cell cw2.out
               have hT : Hid (Blk (w5.alloc (.cells #[.int .i64 4, .int .i64 (x : Int)] 45)) w5.heap.size 45 [.int .i64 4, .int .i64 (x : Int)]) := Blk.new w5 _ _
               have hPa := hide (hP.out.ext ((Ext.refl w5).alloc (.cells #[.int .i64 4, .int .i64 (x : Int)] 45)))
               have t0 := hT.out.box 0 _ rfl
               have t1 := hT.out.box 1 _ rfl
               have q1 := hPa.out.blk.box 1 _ rfl
               clear hP
               have hP := hPa
               clear hPa
              )
            | (
               at_builtin
               refine app_strW rfl rfl (w.heap.size + 1) hP.out.sz v5 (sel ++ J ++ [44, 32]) ([67, 79, 85, 78, 84, 40]) rfl hP.out.out rfl (by simp) (by have := hb1.out; have := hpb.out; simp only [List.length_append, List.length_cons, List.length_nil] at *; omega) ?_
               intro v6 w6 O9 F9
               have hP9 := hide (hP.out.fr F9 O9)
               clear hP
               have hP := hP9
               clear hP9 O9
               have hT9 := hide (F9.blk hT.out (by decide))
               clear hT t0 t1 q1 F9
               have hT := hT9
               clear hT9
               have t1 := hT.out.box 1 _ rfl
               have q1 := hP.out.blk.box 1 _ rfl
              ))
          refine (printNodeI (w.heap.size + 1) na nc nd hlow c x hnb (x : Int) rfl v6 (sel ++ J ++ [44, 32] ++ [67, 79, 85, 78, 84, 40]) w6 (hq.out.nd.ext hP.out.ex) hP.out.out hP.out.sz hl2 (by have := hb1.out; have := hpb.out; simp only [List.length_append, List.length_cons, List.length_nil] at *; omega)).mono ?_
          rintro e w7 ⟨v7, rfl, O9, F9⟩
          have hT9 := hide (F9.blk hT.out (by decide))
          have hP9 := hide (hP.out.fr F9 O9)
          clear hT hP O9 F9 t1 q1
          have hT := hT9
          have hP := hP9
          clear hT9 hP9
          have t0 := hT.out.box 0 _ rfl
          go_wp2_with (
            at_builtin
            refine app_byteW rfl rfl (w.heap.size + 1) (by have := hP.out.sz; simp; omega) v7 (sel ++ J ++ [44, 32] ++ [67, 79, 85, 78, 84, 40] ++ pn nd (x + 1) x) 41 41 rfl rfl (OwnW.alloc hP.out.out _) w7.heap.size 1 (by rfl) (heap_alloc_new w7 _) (by have := hb1.out; have := hpb.out; simp only [List.length_append, List.length_cons, List.length_nil] at *; omega) ?_
            intro v8 w8 O9 F9
            have hP9 := hide ((hP.out.ext ((Ext.refl w7).alloc _)).fr F9 O9)
            clear hP O9 F9 t0
            have hP := hP9
            clear hP9)
          go_roundw
          case rel => exact ⟨k + 1, by go_num, by omega, hP.out.congr (l2 := sel ++ jn [44, 32] (itT nd) (its.take (k + 1))) (by rw [hre.out]; simp [itT, agT])⟩
          case measure => simp [intOf]; omega
  · have hlt' : ¬ (k : Int) < its.length := by omega
    obtain rfl : k = its.length := by omega
    rw [List.take_length] at hP
    have hJl := its_len hI.out
    have hJ0 : Hid (qT ⟨its, nd, wh, gr, li⟩ = sel ++ (jn [44, 32] (itT nd) its ++ (whT nd wh ++ (grT gr ++ liT li)))) := rfl
    obtain ⟨J, hJ⟩ : ∃ J, jn [44, 32] (itT nd) its = J := ⟨_, rfl⟩
    rw [hJ] at hP hJl hJ0
    clear hJ
    have hb1 : Hid ((sel ++ J).length + 64 < 2 ^ 36) := by show _ < _; have : sel.length = 7 := rfl; simp only [List.length_append]; omega
    have hpb : Hid (0 < 1) := Nat.one_pos
    have q0 := hP.out.blk.box 0 _ rfl
    have q2 := hP.out.blk.box 2 _ rfl
    have q3 := hP.out.blk.box 3 _ rfl
    clear hlt hk
    rcases hW.out with ⟨hwh, _⟩ | ⟨x, hwx, _, hnb⟩
    · have hw0 : Hid (whT nd wh = []) := by unfold whT; rw [if_pos hwh]; exact rfl
      have hql : sel ++ (J ++ (whT nd wh ++ (grT gr ++ liT li))) = sel ++ J ++ (grT gr ++ liT li) := by rw [hw0.out]; simp
      rw [hql] at hJ0
      clear hql hw0 hW
      have hwb : (wh != -1) = false := by rw [hwh]; rfl
      replace hwh := hide hwh
      by_cases hg0 : gr = []
      · subst hg0
        simp only [List.length_nil] at q3
        have hqt := hJ0
        have hql : sel ++ J ++ (grT [] ++ liT li) = sel ++ J ++ liT li := by simp [grT]
        rw [hql] at hqt
        clear hql hJ0
        have q4 := hP.out.blk.box 4 _ rfl
        by_cases hli : li < 0
        · have hli' : ¬ (0 : Int) ≤ li := by omega
          have e9 : liT li = [] := by unfold liT; rw [if_pos hli]
          have e8 := hqt.out
          rw [e9, List.append_nil] at e8
          clear hqt e9
          have hqt := hide e8
          clear e8
          obtain ⟨L9, hL9⟩ : ∃ L, sel ++ J = L := ⟨_, rfl⟩
          rw [hL9] at hP hqt
          obtain ⟨pm, cm, hV⟩ := hP.out.out.form
          subst hV
          have hcv := conv_W hP.out.out
          go_wp2_with fail
          go_ret
          exact ⟨by rw [hqt.out]; rfl, hP.out.ex⟩
        · have hli' : (0 : Int) ≤ li := by omega
          have hlm : li ≤ 9223372036854775807 := by rcases hok.out.li with h | h <;> simp only at h <;> omega
          have hqz := hide hqt.out
          have e9 : Hid (liT li = [32] ++ (([76, 73, 77, 73, 84] ++ [32]) ++ itoa li.toNat)) := by unfold liT; rw [if_neg hli]; exact rfl
          rw [e9.out] at hqz
          go_wp2_with fail
          refine (ItoaI li hli' hlm wr).mono ?_
          rintro e wa ⟨rfl, xa⟩
          have hPa := hide (hP.out.ext xa)
          clear hP xa q4 hqt
          have hP := hPa
          clear hPa
          have hds := itoa_len20 li hlm
          obtain ⟨ds, hdd⟩ : ∃ ds, itoa li.toNat = ds := ⟨_, rfl⟩
          rw [hdd] at hds hqz
          rw [hdd]
          have hcat : (({ data := #[32, 76, 73, 77, 73, 84, 32] } : ByteArray) ++ tx ds) = tx (32 :: 76 :: 73 :: 77 :: 73 :: 84 :: 32 :: ds) := tx_append [32, 76, 73, 77, 73, 84, 32] ds
          have hz1 : ¬ 9223372036854775807 < 7 + (tx ds).size := by rw [tx_size]; omega
          have hqt := hqz
          clear hqz
          have hql : (sel ++ J) ++ ([32] ++ (([76, 73, 77, 73, 84] ++ [32]) ++ ds)) = (sel ++ J) ++ (32 :: 76 :: 73 :: 77 :: 73 :: 84 :: 32 :: ds) := rfl
          rw [hql] at hqt
          clear hql
          go_wp2_with (
            at_builtin
            refine app_strW rfl rfl (w.heap.size + 1) hP.out.sz u3 (sel ++ J) (32 :: 76 :: 73 :: 77 :: 73 :: 84 :: 32 :: ds) rfl hP.out.out rfl (by simp) (by have := hb1.out; have := hpb.out; simp only [List.length_append, List.length_cons, List.length_nil] at *; omega) ?_
            intro vb wb O9 F9
            have hP9 := hide (hP.out.fr F9 O9)
            clear hP
            have hP := hP9
            clear hP9 O9
            obtain ⟨L9, hL9⟩ : ∃ L, sel ++ J ++ (32 :: 76 :: 73 :: 77 :: 73 :: 84 :: 32 :: ds) = L := ⟨_, rfl⟩
            rw [hL9] at hP hqt
            obtain ⟨pm, cm, hV⟩ := hP.out.out.form
            subst hV
            have hcv := conv_W hP.out.out)
          go_ret
          exact ⟨by rw [hqt.out]; rfl, hP.out.ex⟩
      · have hgp : 0 < gr.length := List.length_pos_iff.2 hg0
        have hgz : Hid (grT gr = [32] ++ (([71, 82, 79, 85, 80] ++ [32]) ++ (([66, 89] ++ [32]) ++ jn [44, 32] gT gr))) := by unfold grT; rw [if_neg hg0]; exact rfl
        clear hg0
        have hgi : (0 : Int) < gr.length := by omega
        have hgo := hide hok.out.gr
        rw [hgz.out] at hJ0
        go_wp2_with (
          at_builtin
          refine app_strW rfl rfl (w.heap.size + 1) hP.out.sz u3 (sel ++ J) ([32, 71, 82, 79, 85, 80, 32, 66, 89, 32]) rfl hP.out.out rfl (by simp) (by have := hb1.out; have := hpb.out; simp only [List.length_append, List.length_cons, List.length_nil] at *; omega) ?_
          intro vg wg O9 F9
          have hP9 := hide (hP.out.fr F9 O9)
          clear hP
          have hP := hP9
          clear hP9 O9
          clear F9)
        have hPg : Hid (PQ w wg [.slice ia its.length ic, .slice na nd.length nc, .int .i64 wh, .slice ga gr.length gc, .int .i64 li] vg (sel ++ J ++ [32, 71, 82, 79, 85, 80, 32, 66, 89, 32] ++ jn [44, 32] gT (gr.take 0))) := by simpa [jn] using hP
        clear hP q0 q2 q3
        have hGl := gr_len hgo.out
        have hJg := hJ0
        have hql : sel ++ J ++ ([32] ++ (([71, 82, 79, 85, 80] ++ [32]) ++ (([66, 89] ++ [32]) ++ jn [44, 32] gT gr)) ++ liT li) = (sel ++ J ++ [32, 71, 82, 79, 85, 80, 32, 66, 89, 32] ++ jn [44, 32] gT gr) ++ liT li := by simp
        rw [hql] at hJg
        clear hql hJ0
        have hbg : Hid ((sel ++ J ++ [32, 71, 82, 79, 85, 80, 32, 66, 89, 32]).length + 64 < 2 ^ 37) := by show _ < _; have := hb1.out; have := hpb.out; simp only [List.length_append, List.length_cons, List.length_nil] at *; omega
        obtain ⟨LG, hLG⟩ : ∃ L, sel ++ J ++ [32, 71, 82, 79, 85, 80, 32, 66, 89, 32] = L := ⟨_, rfl⟩
        rw [hLG] at hPg hJg hbg
        clear hLG
        go_loopw [3, 6] (fun v i wr => ∃ k : Nat, i = .int .i64 k ∧ k ≤ gr.length ∧ Hid (PQ w wr [.slice ia its.length ic, .slice na nd.length nc, .int .i64 wh, .slice ga gr.length gc, .int .i64 li] v (LG ++ jn [44, 32] gT (gr.take k)))) (fun _ i _ => gr.length - (intOf i).toNat)
        case atStart => exact ⟨0, rfl, Nat.zero_le _, hPg⟩
        clear hPg
        obtain ⟨k, rfl, hk, hP⟩ := hrel
        clear hb1
        by_cases hlt : k < gr.length
        · have hlt' : (k : Int) < gr.length := by omega
          obtain ⟨b, off, rfl, cw⟩ := hq.out.gr k hlt
          simp only at cw
          have hy0 := hgo.out (gr.getD k 0) (by rw [List.getD_eq_getElem?_getD, List.getElem?_eq_getElem hlt]; exact List.getElem_mem hlt)
          have hgt := gr_len (hgo.out.take k)
          have htl : (gr.take k).length ≤ gr.length := by simp; omega
          have hJt0 : k = 0 → Hid (LG ++ jn [44, 32] gT (gr.take (k + 1)) = LG ++ jn [44, 32] gT (gr.take k) ++ (99 :: itoa (gr.getD k 0).toNat)) := fun h0 => by
            subst h0
            show _ = _
            rw [jn_take0 [44, 32] gT gr 0 hlt]
            simp [jn, gT]
          have hJt1 : k ≠ 0 → Hid (LG ++ jn [44, 32] gT (gr.take (k + 1)) = LG ++ jn [44, 32] gT (gr.take k) ++ [44, 32] ++ (99 :: itoa (gr.getD k 0).toNat)) := fun h0 => by
            show _ = _
            rw [jn_take [44, 32] gT gr 0 k hlt h0]
            simp [gT]
          obtain ⟨y, hy⟩ : ∃ y, gr.getD k 0 = y := ⟨_, rfl⟩
          rw [hy] at cw hy0 hJt0 hJt1
          obtain ⟨G, hG⟩ : ∃ G, jn [44, 32] gT (gr.take k) = G := ⟨_, rfl⟩
          rw [hG] at hP hgt hJt0 hJt1
          have hb1 : Hid ((LG ++ G).length + 64 < 2 ^ 38) := by show _ < _; have := hbg.out; simp only [List.length_append]; omega
          replace cw := hide cw
          clear hy hG hbg hgt htl
          by_cases hk0 : k = 0
          · subst hk0
            have hre := hJt0 rfl
            clear hJt0 hJt1
            have q3 := hP.out.blk.box 3 _ rfl
            have c1 := hP.out.ex.cell cw.out
            simp only [Nat.add_zero] at c1
            go_wp2_with fail
            refine (ItoaI y hy0.1 (by omega) wr).mono ?_
            rintro e wa ⟨rfl, xa⟩
            have hPa := hide (hP.out.ext xa)
            clear hP xa q3 c1
            have hP := hPa
            clear hPa
            have hds := itoa_len20 y (by omega)
            obtain ⟨ds, hdd⟩ : ∃ ds, itoa y.toNat = ds := ⟨_, rfl⟩
            rw [hdd] at hds hre
            rw [hdd]
            have hcat : (({ data := #[99] } : ByteArray) ++ tx ds) = tx (99 :: ds) := tx_append [99] ds
            have hz1 : ¬ 9223372036854775807 < 1 + (tx ds).size := by rw [tx_size]; omega
            go_wp2_with (
              at_builtin
              refine app_strW rfl rfl (w.heap.size + 1) hP.out.sz u3 (LG ++ G) (99 :: ds) rfl hP.out.out rfl (by simp) (by have := hb1.out; have := hpb.out; simp only [List.length_append, List.length_cons, List.length_nil] at *; omega) ?_
              intro vb wb O9 F9
              have hP9 := hide (hP.out.fr F9 O9)
              clear hP
              have hP := hP9
              clear hP9 O9
              clear F9)
            go_roundw
            case rel => exact ⟨0 + 1, by go_num, by omega, hP.out.congr (by rw [hre.out])⟩
            case measure => simp [intOf]; omega
          · have hre := hJt1 hk0
            clear hJt0 hJt1
            have hk0' : (0 : Int) < k := by omega
            have q3 := hP.out.blk.box 3 _ rfl
            go_wp2_with (
              at_builtin
              refine app_strW rfl rfl (w.heap.size + 1) hP.out.sz u3 (LG ++ G) ([44, 32]) rfl hP.out.out rfl (by simp) (by have := hb1.out; have := hpb.out; simp only [List.length_append, List.length_cons, List.length_nil] at *; omega) ?_
              intro v5 w5 O9 F9
              have hP9 := hide (hP.out.fr F9 O9)
              clear hP
              have hP := hP9
              clear hP9 O9
              clear F9 q3
              have q3 := hP.out.blk.box 3 _ rfl
              have c1 := hP.out.ex.cell cw.out)
            refine (ItoaI y hy0.1 (by omega) w5).mono ?_
            rintro e wa ⟨rfl, xa⟩
            have hPa := hide (hP.out.ext xa)
            clear hP xa q3 c1
            have hP := hPa
            clear hPa
            have hds := itoa_len20 y (by omega)
            obtain ⟨ds, hdd⟩ : ∃ ds, itoa y.toNat = ds := ⟨_, rfl⟩
            rw [hdd] at hds hre
            rw [hdd]
            have hcat : (({ data := #[99] } : ByteArray) ++ tx ds) = tx (99 :: ds) := tx_append [99] ds
            have hz1 : ¬ 9223372036854775807 < 1 + (tx ds).size := by rw [tx_size]; omega
            go_wp2_with (
              at_builtin
              refine app_strW rfl rfl (w.heap.size + 1) hP.out.sz v5 (LG ++ G ++ [44, 32]) (99 :: ds) rfl hP.out.out rfl (by simp) (by have := hb1.out; have := hpb.out; simp only [List.length_append, List.length_cons, List.length_nil] at *; omega) ?_
              intro vb wb O9 F9
              have hP9 := hide (hP.out.fr F9 O9)
              clear hP
              have hP := hP9
              clear hP9 O9
              clear F9)
            go_roundw
            case rel => exact ⟨k + 1, by go_num, by omega, hP.out.congr (by rw [hre.out])⟩
            case measure => simp [intOf]; omega
        · have hlt' : ¬ (k : Int) < gr.length := by omega
          obtain rfl : k = gr.length := by omega
          rw [List.take_length] at hP
          have q3 := hP.out.blk.box 3 _ rfl
          have hqt := hJg
          have hb1 : Hid ((LG ++ jn [44, 32] gT gr).length + 64 < 2 ^ 38) := by show _ < _; have := hbg.out; simp only [List.length_append]; omega
          clear hJg hbg
          have q4 := hP.out.blk.box 4 _ rfl
          by_cases hli : li < 0
          · have hli' : ¬ (0 : Int) ≤ li := by omega
            have e9 : liT li = [] := by unfold liT; rw [if_pos hli]
            have e8 := hqt.out
            rw [e9, List.append_nil] at e8
            clear hqt e9
            have hqt := hide e8
            clear e8
            obtain ⟨L9, hL9⟩ : ∃ L, LG ++ jn [44, 32] gT gr = L := ⟨_, rfl⟩
            rw [hL9] at hP hqt
            obtain ⟨pm, cm, hV⟩ := hP.out.out.form
            subst hV
            have hcv := conv_W hP.out.out
            go_wp2_with fail
            go_ret
            exact ⟨by rw [hqt.out]; rfl, hP.out.ex⟩
          · have hli' : (0 : Int) ≤ li := by omega
            have hlm : li ≤ 9223372036854775807 := by rcases hok.out.li with h | h <;> simp only at h <;> omega
            have hqz := hide hqt.out
            have e9 : Hid (liT li = [32] ++ (([76, 73, 77, 73, 84] ++ [32]) ++ itoa li.toNat)) := by unfold liT; rw [if_neg hli]; exact rfl
            rw [e9.out] at hqz
            go_wp2_with fail
            refine (ItoaI li hli' hlm wr).mono ?_
            rintro e wa ⟨rfl, xa⟩
            have hPa := hide (hP.out.ext xa)
            clear hP xa q4 hqt
            have hP := hPa
            clear hPa
            have hds := itoa_len20 li hlm
            obtain ⟨ds, hdd⟩ : ∃ ds, itoa li.toNat = ds := ⟨_, rfl⟩
            rw [hdd] at hds hqz
            rw [hdd]
            have hcat : (({ data := #[32, 76, 73, 77, 73, 84, 32] } : ByteArray) ++ tx ds) = tx (32 :: 76 :: 73 :: 77 :: 73 :: 84 :: 32 :: ds) := tx_append [32, 76, 73, 77, 73, 84, 32] ds
            have hz1 : ¬ 9223372036854775807 < 7 + (tx ds).size := by rw [tx_size]; omega
            have hqt := hqz
            clear hqz
            have hql : (LG ++ jn [44, 32] gT gr) ++ ([32] ++ (([76, 73, 77, 73, 84] ++ [32]) ++ ds)) = (LG ++ jn [44, 32] gT gr) ++ (32 :: 76 :: 73 :: 77 :: 73 :: 84 :: 32 :: ds) := rfl
            rw [hql] at hqt
            clear hql
            go_wp2_with (
              at_builtin
              refine app_strW rfl rfl (w.heap.size + 1) hP.out.sz u3 (LG ++ jn [44, 32] gT gr) (32 :: 76 :: 73 :: 77 :: 73 :: 84 :: 32 :: ds) rfl hP.out.out rfl (by simp) (by have := hb1.out; have := hpb.out; simp only [List.length_append, List.length_cons, List.length_nil] at *; omega) ?_
              intro vb wb O9 F9
              have hP9 := hide (hP.out.fr F9 O9)
              clear hP
              have hP := hP9
              clear hP9 O9
              obtain ⟨L9, hL9⟩ : ∃ L, LG ++ jn [44, 32] gT gr ++ (32 :: 76 :: 73 :: 77 :: 73 :: 84 :: 32 :: ds) = L := ⟨_, rfl⟩
              rw [hL9] at hP hqt
              obtain ⟨pm, cm, hV⟩ := hP.out.out.form
              subst hV
              have hcv := conv_W hP.out.out)
            go_ret
            exact ⟨by rw [hqt.out]; rfl, hP.out.ex⟩
    · have hxb := NB.bound _ _ _ hnb
      have hw0 : Hid (whT nd wh = [32] ++ (([87, 72, 69, 82, 69] ++ [32]) ++ pn nd (x + 1) x)) := by unfold whT; rw [if_neg (by omega), hwx, Int.toNat_natCast]; exact rfl
      have hql : sel ++ (J ++ (whT nd wh ++ (grT gr ++ liT li))) = sel ++ J ++ [32, 87, 72, 69, 82, 69, 32] ++ pn nd (x + 1) x ++ (grT gr ++ liT li) := by rw [hw0.out]; simp
      rw [hql] at hJ0
      clear hql hw0 hW hpb
      have hwb : (wh != -1) = true := by rw [hwx]; simp
      have hpb : Hid ((pn nd (x + 1) x).length ≤ 2097152) := by have := pn_len nd _ _ _ hnb; show _ ≤ _; omega
      have hlow := hide (hq.out.nd.low x hxb.2)
      replace hwx := hide hwx
      replace hnb := hide hnb
      clear hxb
      go_wp2_with (
        at_builtin
        refine app_strW rfl rfl (w.heap.size + 1) hP.out.sz u3 (sel ++ J) ([32, 87, 72, 69, 82, 69, 32]) rfl hP.out.out rfl (by simp) (by have := hb1.out; have := hpb.out; simp only [List.length_append, List.length_cons, List.length_nil] at *; omega) ?_
        intro v5 w5 O9 F9
        have hP9 := hide (hP.out.fr F9 O9)
        clear hP
        have hP := hP9
        clear hP9 O9
        clear F9 q2
        have q1 := hP.out.blk.box 1 _ rfl
        have q2 := hP.out.blk.box 2 _ rfl)
      refine (printNodeI (w.heap.size + 1) na nc nd hlow bI x hnb wh hwx.out v5 (sel ++ J ++ [32, 87, 72, 69, 82, 69, 32]) w5 (hq.out.nd.ext hP.out.ex) hP.out.out hP.out.sz hl2 (by have := hb1.out; have := hpb.out; simp only [List.length_append, List.length_cons, List.length_nil] at *; omega)).mono ?_
      rintro e w7 ⟨v7, rfl, O9, F9⟩
      have hP9 := hide (hP.out.fr F9 O9)
      clear hP O9 F9 q0 q1 q2 q3
      have hP := hP9
      clear hP9
      have q0 := hP.out.blk.box 0 _ rfl
      have q2 := hP.out.blk.box 2 _ rfl
      have q3 := hP.out.blk.box 3 _ rfl
      by_cases hg0 : gr = []
      · subst hg0
        simp only [List.length_nil] at q3
        have hqt := hJ0
        have hql : sel ++ J ++ [32, 87, 72, 69, 82, 69, 32] ++ pn nd (x + 1) x ++ (grT [] ++ liT li) = sel ++ J ++ [32, 87, 72, 69, 82, 69, 32] ++ pn nd (x + 1) x ++ liT li := by simp [grT]
        rw [hql] at hqt
        clear hql hJ0
        have q4 := hP.out.blk.box 4 _ rfl
        by_cases hli : li < 0
        · have hli' : ¬ (0 : Int) ≤ li := by omega
          have e9 : liT li = [] := by unfold liT; rw [if_pos hli]
          have e8 := hqt.out
          rw [e9, List.append_nil] at e8
          clear hqt e9
          have hqt := hide e8
          clear e8
          obtain ⟨L9, hL9⟩ : ∃ L, sel ++ J ++ [32, 87, 72, 69, 82, 69, 32] ++ pn nd (x + 1) x = L := ⟨_, rfl⟩
          rw [hL9] at hP hqt
          obtain ⟨pm, cm, hV⟩ := hP.out.out.form
          subst hV
          have hcv := conv_W hP.out.out
          go_wp2_with fail
          go_ret
          exact ⟨by rw [hqt.out]; rfl, hP.out.ex⟩
        · have hli' : (0 : Int) ≤ li := by omega
          have hlm : li ≤ 9223372036854775807 := by rcases hok.out.li with h | h <;> simp only at h <;> omega
          have hqz := hide hqt.out
          have e9 : Hid (liT li = [32] ++ (([76, 73, 77, 73, 84] ++ [32]) ++ itoa li.toNat)) := by unfold liT; rw [if_neg hli]; exact rfl
          rw [e9.out] at hqz
          go_wp2_with fail
          refine (ItoaI li hli' hlm w7).mono ?_
          rintro e wa ⟨rfl, xa⟩
          have hPa := hide (hP.out.ext xa)
          clear hP xa q4 hqt
          have hP := hPa
          clear hPa
          have hds := itoa_len20 li hlm
          obtain ⟨ds, hdd⟩ : ∃ ds, itoa li.toNat = ds := ⟨_, rfl⟩
          rw [hdd] at hds hqz
          rw [hdd]
          have hcat : (({ data := #[32, 76, 73, 77, 73, 84, 32] } : ByteArray) ++ tx ds) = tx (32 :: 76 :: 73 :: 77 :: 73 :: 84 :: 32 :: ds) := tx_append [32, 76, 73, 77, 73, 84, 32] ds
          have hz1 : ¬ 9223372036854775807 < 7 + (tx ds).size := by rw [tx_size]; omega
          have hqt := hqz
          clear hqz
          have hql : (sel ++ J ++ [32, 87, 72, 69, 82, 69, 32] ++ pn nd (x + 1) x) ++ ([32] ++ (([76, 73, 77, 73, 84] ++ [32]) ++ ds)) = (sel ++ J ++ [32, 87, 72, 69, 82, 69, 32] ++ pn nd (x + 1) x) ++ (32 :: 76 :: 73 :: 77 :: 73 :: 84 :: 32 :: ds) := rfl
          rw [hql] at hqt
          clear hql
          go_wp2_with (
            at_builtin
            refine app_strW rfl rfl (w.heap.size + 1) hP.out.sz v7 (sel ++ J ++ [32, 87, 72, 69, 82, 69, 32] ++ pn nd (x + 1) x) (32 :: 76 :: 73 :: 77 :: 73 :: 84 :: 32 :: ds) rfl hP.out.out rfl (by simp) (by have := hb1.out; have := hpb.out; simp only [List.length_append, List.length_cons, List.length_nil] at *; omega) ?_
            intro vb wb O9 F9
            have hP9 := hide (hP.out.fr F9 O9)
            clear hP
            have hP := hP9
            clear hP9 O9
            obtain ⟨L9, hL9⟩ : ∃ L, sel ++ J ++ [32, 87, 72, 69, 82, 69, 32] ++ pn nd (x + 1) x ++ (32 :: 76 :: 73 :: 77 :: 73 :: 84 :: 32 :: ds) = L := ⟨_, rfl⟩
            rw [hL9] at hP hqt
            obtain ⟨pm, cm, hV⟩ := hP.out.out.form
            subst hV
            have hcv := conv_W hP.out.out)
          go_ret
          exact ⟨by rw [hqt.out]; rfl, hP.out.ex⟩
      · have hgp : 0 < gr.length := List.length_pos_iff.2 hg0
        have hgz : Hid (grT gr = [32] ++ (([71, 82, 79, 85, 80] ++ [32]) ++ (([66, 89] ++ [32]) ++ jn [44, 32] gT gr))) := by unfold grT; rw [if_neg hg0]; exact rfl
        clear hg0
        have hgi : (0 : Int) < gr.length := by omega
        have hgo := hide hok.out.gr
        rw [hgz.out] at hJ0
        go_wp2_with (
          at_builtin
          refine app_strW rfl rfl (w.heap.size + 1) hP.out.sz v7 (sel ++ J ++ [32, 87, 72, 69, 82, 69, 32] ++ pn nd (x + 1) x) ([32, 71, 82, 79, 85, 80, 32, 66, 89, 32]) rfl hP.out.out rfl (by simp) (by have := hb1.out; have := hpb.out; simp only [List.length_append, List.length_cons, List.length_nil] at *; omega) ?_
          intro vg wg O9 F9
          have hP9 := hide (hP.out.fr F9 O9)
          clear hP
          have hP := hP9
          clear hP9 O9
          clear F9)
        have hPg : Hid (PQ w wg [.slice ia its.length ic, .slice na nd.length nc, .int .i64 wh, .slice ga gr.length gc, .int .i64 li] vg (sel ++ J ++ [32, 87, 72, 69, 82, 69, 32] ++ pn nd (x + 1) x ++ [32, 71, 82, 79, 85, 80, 32, 66, 89, 32] ++ jn [44, 32] gT (gr.take 0))) := by simpa [jn] using hP
        clear hP q0 q2 q3
        have hGl := gr_len hgo.out
        have hJg := hJ0
        have hql : sel ++ J ++ [32, 87, 72, 69, 82, 69, 32] ++ pn nd (x + 1) x ++ ([32] ++ (([71, 82, 79, 85, 80] ++ [32]) ++ (([66, 89] ++ [32]) ++ jn [44, 32] gT gr)) ++ liT li) = (sel ++ J ++ [32, 87, 72, 69, 82, 69, 32] ++ pn nd (x + 1) x ++ [32, 71, 82, 79, 85, 80, 32, 66, 89, 32] ++ jn [44, 32] gT gr) ++ liT li := by simp
        rw [hql] at hJg
        clear hql hJ0
        have hbg : Hid ((sel ++ J ++ [32, 87, 72, 69, 82, 69, 32] ++ pn nd (x + 1) x ++ [32, 71, 82, 79, 85, 80, 32, 66, 89, 32]).length + 64 < 2 ^ 37) := by show _ < _; have := hb1.out; have := hpb.out; simp only [List.length_append, List.length_cons, List.length_nil] at *; omega
        obtain ⟨LG, hLG⟩ : ∃ L, sel ++ J ++ [32, 87, 72, 69, 82, 69, 32] ++ pn nd (x + 1) x ++ [32, 71, 82, 79, 85, 80, 32, 66, 89, 32] = L := ⟨_, rfl⟩
        rw [hLG] at hPg hJg hbg
        clear hLG
        go_loopw [3, 6] (fun v i wr => ∃ k : Nat, i = .int .i64 k ∧ k ≤ gr.length ∧ Hid (PQ w wr [.slice ia its.length ic, .slice na nd.length nc, .int .i64 wh, .slice ga gr.length gc, .int .i64 li] v (LG ++ jn [44, 32] gT (gr.take k)))) (fun _ i _ => gr.length - (intOf i).toNat)
        case atStart => exact ⟨0, rfl, Nat.zero_le _, hPg⟩
        clear hPg
        obtain ⟨k, rfl, hk, hP⟩ := hrel
        clear hb1
        by_cases hlt : k < gr.length
        · have hlt' : (k : Int) < gr.length := by omega
          obtain ⟨b, off, rfl, cw⟩ := hq.out.gr k hlt
          simp only at cw
          have hy0 := hgo.out (gr.getD k 0) (by rw [List.getD_eq_getElem?_getD, List.getElem?_eq_getElem hlt]; exact List.getElem_mem hlt)
          have hgt := gr_len (hgo.out.take k)
          have htl : (gr.take k).length ≤ gr.length := by simp; omega
          have hJt0 : k = 0 → Hid (LG ++ jn [44, 32] gT (gr.take (k + 1)) = LG ++ jn [44, 32] gT (gr.take k) ++ (99 :: itoa (gr.getD k 0).toNat)) := fun h0 => by
            subst h0
            show _ = _
            rw [jn_take0 [44, 32] gT gr 0 hlt]
            simp [jn, gT]
          have hJt1 : k ≠ 0 → Hid (LG ++ jn [44, 32] gT (gr.take (k + 1)) = LG ++ jn [44, 32] gT (gr.take k) ++ [44, 32] ++ (99 :: itoa (gr.getD k 0).toNat)) := fun h0 => by
            show _ = _
            rw [jn_take [44, 32] gT gr 0 k hlt h0]
            simp [gT]
          obtain ⟨y, hy⟩ : ∃ y, gr.getD k 0 = y := ⟨_, rfl⟩
          rw [hy] at cw hy0 hJt0 hJt1
          obtain ⟨G, hG⟩ : ∃ G, jn [44, 32] gT (gr.take k) = G := ⟨_, rfl⟩
          rw [hG] at hP hgt hJt0 hJt1
          have hb1 : Hid ((LG ++ G).length + 64 < 2 ^ 38) := by show _ < _; have := hbg.out; simp only [List.length_append]; omega
          replace cw := hide cw
          clear hy hG hbg hgt htl
          by_cases hk0 : k = 0
          · subst hk0
            have hre := hJt0 rfl
            clear hJt0 hJt1
            have q3 := hP.out.blk.box 3 _ rfl
            have c1 := hP.out.ex.cell cw.out
            simp only [Nat.add_zero] at c1
            go_wp2_with fail
            refine (ItoaI y hy0.1 (by omega) wr).mono ?_
            rintro e wa ⟨rfl, xa⟩
            have hPa := hide (hP.out.ext xa)
            clear hP xa q3 c1
            have hP := hPa
            clear hPa
            have hds := itoa_len20 y (by omega)
            obtain ⟨ds, hdd⟩ : ∃ ds, itoa y.toNat = ds := ⟨_, rfl⟩
            rw [hdd] at hds hre
            rw [hdd]
            have hcat : (({ data := #[99] } : ByteArray) ++ tx ds) = tx (99 :: ds) := tx_append [99] ds
            have hz1 : ¬ 9223372036854775807 < 1 + (tx ds).size := by rw [tx_size]; omega
            go_wp2_with (
              at_builtin
              refine app_strW rfl rfl (w.heap.size + 1) hP.out.sz u3 (LG ++ G) (99 :: ds) rfl hP.out.out rfl (by simp) (by have := hb1.out; have := hpb.out; simp only [List.length_append, List.length_cons, List.length_nil] at *; omega) ?_
              intro vb wb O9 F9
              have hP9 := hide (hP.out.fr F9 O9)
              clear hP
              have hP := hP9
              clear hP9 O9
              clear F9)
            go_roundw
            case rel => exact ⟨0 + 1, by go_num, by omega, hP.out.congr (by rw [hre.out])⟩
            case measure => simp [intOf]; omega
          · have hre := hJt1 hk0
            clear hJt0 hJt1
            have hk0' : (0 : Int) < k := by omega
            have q3 := hP.out.blk.box 3 _ rfl
            go_wp2_with (
              at_builtin
              refine app_strW rfl rfl (w.heap.size + 1) hP.out.sz u3 (LG ++ G) ([44, 32]) rfl hP.out.out rfl (by simp) (by have := hb1.out; have := hpb.out; simp only [List.length_append, List.length_cons, List.length_nil] at *; omega) ?_
              intro v5 w5 O9 F9
              have hP9 := hide (hP.out.fr F9 O9)
              clear hP
              have hP := hP9
              clear hP9 O9
              clear F9 q3
              have q3 := hP.out.blk.box 3 _ rfl
              have c1 := hP.out.ex.cell cw.out)
            refine (ItoaI y hy0.1 (by omega) w5).mono ?_
            rintro e wa ⟨rfl, xa⟩
            have hPa := hide (hP.out.ext xa)
            clear hP xa q3 c1
            have hP := hPa
            clear hPa
            have hds := itoa_len20 y (by omega)
            obtain ⟨ds, hdd⟩ : ∃ ds, itoa y.toNat = ds := ⟨_, rfl⟩
            rw [hdd] at hds hre
            rw [hdd]
            have hcat : (({ data := #[99] } : ByteArray) ++ tx ds) = tx (99 :: ds) := tx_append [99] ds
            have hz1 : ¬ 9223372036854775807 < 1 + (tx ds).size := by rw [tx_size]; omega
            go_wp2_with (
              at_builtin
              refine app_strW rfl rfl (w.heap.size + 1) hP.out.sz v5 (LG ++ G ++ [44, 32]) (99 :: ds) rfl hP.out.out rfl (by simp) (by have := hb1.out; have := hpb.out; simp only [List.length_append, List.length_cons, List.length_nil] at *; omega) ?_
              intro vb wb O9 F9
              have hP9 := hide (hP.out.fr F9 O9)
              clear hP
              have hP := hP9
              clear hP9 O9
              clear F9)
            go_roundw
            case rel => exact ⟨k + 1, by go_num, by omega, hP.out.congr (by rw [hre.out])⟩
            case measure => simp [intOf]; omega
        · have hlt' : ¬ (k : Int) < gr.length := by omega
          obtain rfl : k = gr.length := by omega
          rw [List.take_length] at hP
          have q3 := hP.out.blk.box 3 _ rfl
          have hqt := hJg
          have hb1 : Hid ((LG ++ jn [44, 32] gT gr).length + 64 < 2 ^ 38) := by show _ < _; have := hbg.out; simp only [List.length_append]; omega
          clear hJg hbg
          have q4 := hP.out.blk.box 4 _ rfl
          by_cases hli : li < 0
          · have hli' : ¬ (0 : Int) ≤ li := by omega
            have e9 : liT li = [] := by unfold liT; rw [if_pos hli]
            have e8 := hqt.out
            rw [e9, List.append_nil] at e8
            clear hqt e9
            have hqt := hide e8
            clear e8
            obtain ⟨L9, hL9⟩ : ∃ L, LG ++ jn [44, 32] gT gr = L := ⟨_, rfl⟩
            rw [hL9] at hP hqt
            obtain ⟨pm, cm, hV⟩ := hP.out.out.form
            subst hV
            have hcv := conv_W hP.out.out
            go_wp2_with fail
            go_ret
            exact ⟨by rw [hqt.out]; rfl, hP.out.ex⟩
          · have hli' : (0 : Int) ≤ li := by omega
            have hlm : li ≤ 9223372036854775807 := by rcases hok.out.li with h | h <;> simp only at h <;> omega
            have hqz := hide hqt.out
            have e9 : Hid (liT li = [32] ++ (([76, 73, 77, 73, 84] ++ [32]) ++ itoa li.toNat)) := by unfold liT; rw [if_neg hli]; exact rfl
            rw [e9.out] at hqz
            go_wp2_with fail
            refine (ItoaI li hli' hlm wr).mono ?_
            rintro e wa ⟨rfl, xa⟩
            have hPa := hide (hP.out.ext xa)
            clear hP xa q4 hqt
            have hP := hPa
            clear hPa
            have hds := itoa_len20 li hlm
            obtain ⟨ds, hdd⟩ : ∃ ds, itoa li.toNat = ds := ⟨_, rfl⟩
            rw [hdd] at hds hqz
            rw [hdd]
            have hcat : (({ data := #[32, 76, 73, 77, 73, 84, 32] } : ByteArray) ++ tx ds) = tx (32 :: 76 :: 73 :: 77 :: 73 :: 84 :: 32 :: ds) := tx_append [32, 76, 73, 77, 73, 84, 32] ds
            have hz1 : ¬ 9223372036854775807 < 7 + (tx ds).size := by rw [tx_size]; omega
            have hqt := hqz
            clear hqz
            have hql : (LG ++ jn [44, 32] gT gr) ++ ([32] ++ (([76, 73, 77, 73, 84] ++ [32]) ++ ds)) = (LG ++ jn [44, 32] gT gr) ++ (32 :: 76 :: 73 :: 77 :: 73 :: 84 :: 32 :: ds) := rfl
            rw [hql] at hqt
            clear hql
            go_wp2_with (
              at_builtin
              refine app_strW rfl rfl (w.heap.size + 1) hP.out.sz u3 (LG ++ jn [44, 32] gT gr) (32 :: 76 :: 73 :: 77 :: 73 :: 84 :: 32 :: ds) rfl hP.out.out rfl (by simp) (by have := hb1.out; have := hpb.out; simp only [List.length_append, List.length_cons, List.length_nil] at *; omega) ?_
              intro vb wb O9 F9
              have hP9 := hide (hP.out.fr F9 O9)
              clear hP
              have hP := hP9
              clear hP9 O9
              obtain ⟨L9, hL9⟩ : ∃ L, LG ++ jn [44, 32] gT gr ++ (32 :: 76 :: 73 :: 77 :: 73 :: 84 :: 32 :: ds) = L := ⟨_, rfl⟩
              rw [hL9] at hP hqt
              obtain ⟨pm, cm, hV⟩ := hP.out.out.form
              subst hV
              have hcv := conv_W hP.out.out)
            go_ret
            exact ⟨by rw [hqt.out]; rfl, hP.out.ex⟩
end Go.Proofs.Ybyaaw
