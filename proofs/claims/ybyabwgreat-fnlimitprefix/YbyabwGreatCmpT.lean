/- impl.Compile, spec.RefCompile: what their second halves hold -/
import Derived.Test.YbyabwGreatCmp5
import Derived.Test.YbyabwGreatHeldMk
import Derived.Test.YbyabwGreatEval2h
namespace Go.Proofs.YbyabwGreat
open Go.RowKit
set_option maxRecDepth 100000
set_option linter.unusedVariables false
set_option linter.unusedSimpArgs false

theorem evalInto_all (nd : List Nd) (row ys : List Int) (na ra : Option Addr) (nc cr g cap rl : Nat) (x : Int) (w0 w : World) (h0 : Hid (Ext w0 w)) (hn : Hid (NodesAt w0 na nd)) (hr : Hid (IntsAt w ra row)) (har : Hid (∀ p, ra = some p → p.block ≠ g))
    (hv : Hid (OwnI w w0.heap.size 2 (.slice (some ⟨g, 0, none⟩) nd.length cap) ys)) (hy : ys.length = nd.length) (l1 : nd.length < 2 ^ 39) (l2 : row.length < 2 ^ 39) (hw : Hid (WfA nd row.length)) (hx : x = (nd.length : Int) - 1) (hrl : rl = row.length) :
    Calls Yabn.prog 45 #[.slice na nd.length nc, .int .i64 x, .slice ra rl cr, .slice (some ⟨g, 0, none⟩) nd.length cap] w (RetEvalInto w0.heap.size 2 (.slice (some ⟨g, 0, none⟩) nd.length cap) (evTo nd row nd.length) w) := by
  subst hrl
  by_cases hz : nd.length = 0
  · refine (evalInto_neg _ _ _ x (by omega) w).mono ?_
    rintro e w' ⟨rfl, rfl⟩
    refine ⟨rfl, ?_, Below.refl _ _⟩
    have hy0 : ys = [] := List.eq_nil_of_length_eq_zero (by omega)
    have e0 : evTo nd row nd.length = ys := by rw [hy0, hz]; rfl
    rw [e0]
    exact hv.out
  · have := evalIntoG nd row ys na ra nc cr g cap (nd.length - 1) w0 w h0 hn hr har (by rw [hy]; exact hv) l1 l2 (by omega) (by omega) (by omega) (fun i hi => hw.out i (by omega))
    rw [hy, show nd.length - 1 + 1 = nd.length by omega, mixTo_all nd row ys hy, show ((nd.length - 1 : Nat) : Int) = x by omega] at this
    exact this
theorem But.of_below {base : Nat} {a b : World} (h : Below base a b) : But (fun q => base ≤ q) a b := ⟨h.os, h.tape, h.output, h.size, fun k hk hn => h.block k (by omega)⟩
theorem FrT.blk {t tt : TypeId} {base g : Nat} {w w1 : World} {vs : List Value} (h : FrT t base w w1) (hx : Blk w g tt vs) (hne : tt ≠ t) : Blk w1 g tt vs := But.blk h hx (fun hh => by
  obtain ⟨_, cur, r, e⟩ := hh
  unfold Blk at hx
  rw [hx] at e
  injection e with e
  injection e with _ e2
  exact hne e2)
/-- What is held from the values on. -/
structure EI (w wr : World) (cs : List Value) (nd : List Nd) (zr : List Int) (hb vb hcap vcap : Nat) : Prop where
  ci : CI w wr cs
  hz : OwnZ wr (w.heap.size + 2) (.slice (some ⟨hb, 0, none⟩) nd.length hcap) (toL hcN nd nd.length)
  va : OwnI wr (w.heap.size + 2) 2 (.slice (some ⟨vb, 0, none⟩) nd.length vcap) (evTo nd zr nd.length)
section
variable {w wr w2 : World} {cs : List Value} {nd : List Nd} {zr : List Int} {hb vb hcap vcap : Nat}
theorem CI.fr {t : TypeId} (h : CI w wr cs) (hf : FrT t (w.heap.size + 2) wr w2) : CI w w2 cs := h.but hf (fun k hk => hk.1)
theorem EI.fr {t : TypeId} (h : EI w wr cs nd zr hb vb hcap vcap) (hf : FrT t (w.heap.size + 2) wr w2) (h1 : 4 ≠ t) (h2 : 2 ≠ t) : EI w w2 cs nd zr hb vb hcap vcap :=
  ⟨h.ci.fr hf, hf.row h.hz h1, hf.row h.va h2⟩
theorem EI.ext (h : EI w wr cs nd zr hb vb hcap vcap) (he : Ext wr w2) : EI w w2 cs nd zr hb vb hcap vcap := ⟨h.ci.ext he, h.hz.ext he, h.va.ext he⟩
end
theorem NodesAt.low {w : World} {na : Option Addr} {nd : List Nd} (h : NodesAt w na nd) {x B : Nat} (hx : x < nd.length) (hB : w.heap.size ≤ B) : ∀ p, na = some p → p.block < B := fun p hp => by
  obtain ⟨b, off, e, g1, _⟩ := h.get x hx
  rw [hp] at e
  cases e
  have := cell_lt g1
  simp only at this ⊢
  omega
/-- The items' row while it is filled. -/
def itRows (xs : List (Int × Int)) : List (List Value) := xs.map fun p => [.int .i64 p.1, .int .i64 p.2]
def fillI (l : List (Int × Int)) (n : Nat) : List (List Value) := itRows l ++ List.replicate (n - l.length) [.int .i64 0, .int .i64 0]
theorem itRows_len (xs : List (Int × Int)) : (itRows xs).length = xs.length := by simp [itRows]
theorem itRows_flat (xs : List (Int × Int)) : (itRows xs).flatten = pairCells xs := by simp [itRows, pairCells, List.flatMap_def]
theorem fillI_nil (n : Nat) : fillI [] n = List.replicate n [.int .i64 0, .int .i64 0] := by simp [fillI, itRows]
theorem fillI_len (l : List (Int × Int)) (n : Nat) (h : l.length ≤ n) : (fillI l n).length = n := by simp [fillI, itRows]; omega
theorem fillI_full (l : List (Int × Int)) (n : Nat) (h : l.length = n) : fillI l n = itRows l := by simp [fillI, h]
theorem fillI_step (l : List (Int × Int)) (n : Nat) (h : l.length < n) (a b : Int) : (fillI l n).set l.length [.int .i64 a, .int .i64 b] = fillI (l ++ [(a, b)]) n := by
  unfold fillI
  rw [List.set_append_right _ _ (by rw [itRows_len]; omega), itRows_len, Nat.sub_self]
  obtain ⟨m, hm⟩ : ∃ m, n - l.length = m + 1 := ⟨n - l.length - 1, by omega⟩
  have hm2 : n - (l ++ [(a, b)]).length = m := by simp; omega
  rw [hm, hm2, List.replicate_succ, List.set_cons_zero]
  simp [itRows]
theorem OwnP.of_rows {w : World} {base : Nat} {e : TypeId} {v : Value} {xs : List (Int × Int)} (h : OwnV w base e 2 v (itRows xs)) : OwnP w base e v xs := by
  have := h.2
  rw [itRows_len, itRows_flat] at this
  exact this
theorem info_item2 : (Yabn.prog.info? 89).map (fun i => (i.zero, i.size, i.bytes)) = some (some (.agg #[.int .i64 0, .int .i64 0]), 2, 16) := by kernel_rfl
theorem size_item2 : (Yabn.prog.info? 89).map (·.size) = some 2 := by kernel_rfl
section
variable {ops : Array Oper} {rest : List Oper} {o : Oper} {a : Act} {Q : Exit → Act → World → Prop} {w : World}
theorem mk_item (hg : o.guard = none) {l c : Operand} (hop : o.op = Op.makeSlice 50 l c)
    (n : Nat) (hl : a.eval l = .int .i64 n) (hc : a.eval c = .int .i64 n) (hb : n < 2 ^ 40) (N : Nat) (hN : w.heap.size = N)
    (hK : ∀ w', OwnV w' N 89 2 (.slice (some ⟨N, 0, none⟩) n n) (fillI [] n) → Ext w w' → w'.heap.size = N + 1 → wpList Yabn.prog ops Q rest (a.put o.dst (.slice (some ⟨N, 0, none⟩) n n)) w') :
    wpList Yabn.prog ops Q (o :: rest) a w := by
  obtain ⟨i, h2, h3, h4, h5⟩ := info_parts info_item2
  refine wpList_mkV hg hop 89 Yabn.underlying50 h2 h3 h4 (by omega) rfl (by omega) n hl hc hb N hN ?_
  intro w' h
  refine hK w' ?_
  rw [fillI_nil]
  exact h
end
theorem OwnN.cell0 {w : World} {base g n cap : Nat} {e : TypeId} {c : List Nd} (h : OwnN w base e (.slice (some ⟨g, 0, none⟩) n cap) c) (hc : 0 < c.length) :
    w.cell? ⟨g, 0, none⟩ = some (.int .i64 (c.getD 0 nd0).op) ∧ w.cell? ⟨g, 1, none⟩ = some (.int .i64 (c.getD 0 nd0).val) := by
  obtain ⟨b, off, e2, g1, g2, _⟩ := h.nodes.get 0 hc
  injection e2 with e2
  injection e2 with e3 e4 _
  subst e3
  rw [show off = 0 from e4.symm] at g1 g2
  simp at g1 g2
  exact ⟨g1, g2⟩
theorem chN_un {o y l r : Int} {m : Nat} (h : o = 3 ∨ o = 15) (hl : l = (m : Int)) : chN ⟨o, y, l, r⟩ = [m] := by unfold chN; rw [if_pos h, hl, Int.toNat_natCast]
theorem chN_bi {o y l r : Int} {m m2 : Nat} (h : 4 ≤ o ∧ o ≤ 14) (hl : l = (m : Int)) (hr : r = (m2 : Int)) : chN ⟨o, y, l, r⟩ = [m, m2] := by unfold chN; rw [if_neg (by simp only; omega), if_pos h, hl, hr, Int.toNat_natCast, Int.toNat_natCast]
theorem chN_no {o y l r : Int} (h : o = 1 ∨ o = 2) : chN ⟨o, y, l, r⟩ = [] := by unfold chN; rw [if_neg (by simp only; omega), if_neg (by simp only; omega)]
/-- Lengths on the way. -/
theorem len_wh {q : Qy} {n : Nat} (h : CmOK q n) (hn : q.nd.length ≤ 65536) (x : Nat) (hx : q.wh = (x : Int)) : ([] : List Nd).length + tsAt q.nd x ≤ 65536 := by
  have := roots_sum h
  have e : sumL (tsAt q.nd) (whR q.wh) = tsAt q.nd x := by unfold whR; rw [if_neg (by omega), hx, Int.toNat_natCast]; simp [sumL]
  simp
  omega
theorem len_it {q : Qy} {n : Nat} {zr : List Int} (h : CmOK q n) (hn : q.nd.length ≤ 65536) (k x : Nat) (hk : k < q.its.length) (hx : (q.its.getD k (0, 0)).2 = (x : Int)) :
    (cK q.nd zr q.its (cW q.nd zr q.wh).1 k).1.length + tsAt q.nd x ≤ 65536 := by
  obtain ⟨c, wh, e, hwf, hlen, _⟩ := cW_law (zr := zr) h
  have k1 := cK_law (zr := zr) h c hwf k (by omega)
  have hs := roots_sum h
  have h1 := its_take_sum (q := q) (k + 1) (tsAt q.nd)
  rw [take_succ_it q.its k hk] at h1
  have e2 : sumL (tsAt q.nd) (itsR (q.its.take k ++ [q.its.getD k (0, 0)])) = sumL (tsAt q.nd) (itsR (q.its.take k)) + tsAt q.nd x := by
    simp only [itsR, List.flatMap_append, List.flatMap_cons, List.flatMap_nil, List.append_nil, sumL_app]
    congr 1
    unfold itR
    rw [if_neg (by omega), hx, Int.toNat_natCast]
    simp [sumL]
  rw [e2] at h1
  have := k1.len
  rw [e]
  simp only at this ⊢
  omega
theorem len_its {q : Qy} {n : Nat} {zr : List Int} (h : CmOK q n) (k : Nat) (hk : k ≤ q.its.length) : (cK q.nd zr q.its (cW q.nd zr q.wh).1 k).2.length = k := by
  obtain ⟨c, wh, e, hwf, hlen, _⟩ := cW_law (zr := zr) h
  have k1 := cK_law (zr := zr) h c hwf k hk
  rw [e]
  exact k1.il
theorem cK_no {nd : List Nd} {zr : List Int} {its : List (Int × Int)} {c0 : List Nd} {k : Nat} {g y : Int} (h : its.getD k (0, 0) = (g, y)) (hy : y = -1) : cK nd zr its c0 (k + 1) = ((cK nd zr its c0 k).1, (cK nd zr its c0 k).2 ++ [(g, -1)]) := by
  rw [cK, h, if_pos hy]
theorem cK_yes {nd : List Nd} {zr : List Int} {its : List (Int × Int)} {c0 : List Nd} {k x : Nat} {g y : Int} (h : its.getD k (0, 0) = (g, y)) (hy : y = (x : Int)) : cK nd zr its c0 (k + 1) = ((em nd zr x (cK nd zr its c0 k).1).1, (cK nd zr its c0 k).2 ++ [(g, (em nd zr x (cK nd zr its c0 k).1).2)]) := by
  rw [cK, h, if_neg (by simp only; omega)]
  simp only
  rw [hy, Int.toNat_natCast]
end Go.Proofs.YbyabwGreat
