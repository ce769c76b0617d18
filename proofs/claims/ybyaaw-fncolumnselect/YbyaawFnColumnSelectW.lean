/- Walk: laws.FnColumnSelect -/
import Derived.Test.YbyaawEnc3
import Derived.Test.YbyaawSel1
import Derived.Test.YbyaawPlainEnc3
namespace Go.Proofs.Ybyaaw
open Go.RowKit
set_option maxRecDepth 100000
set_option linter.unusedVariables false

def TrueE (w : World) : Ending → World → Prop := fun e w' => e = .returned (.bool true) ∧ Ext w w'

theorem encOf_valid (k : Int) (xs : List Int) (h : xs.length ≤ 65536) (hk : k = 0 ∨ k = 1 ∨ k = 2) : Valid (encOf k xs) xs.length ∧ ColLen (encOf k xs) := by
  unfold encOf
  rw [if_neg (by omega)]
  have h1 := dictOf_len xs
  have h2 := (rle_ok xs).len
  rcases hk with rfl | rfl | rfl
  · exact ⟨encP_valid xs h, ⟨by simp [encP]; omega, by simp [encP], by simp [encP], by simp [encP]⟩⟩
  · exact ⟨encD_valid xs h, ⟨by simp [encD], by simp [encD]; omega, by simp [encD]; omega, by simp [encD]⟩⟩
  · exact ⟨encR_valid xs h, ⟨by simp [encR], by simp [encR], by simp [encR], by simp [encR]; omega⟩⟩

set_option maxHeartbeats 1000000 in
theorem fnColumnSelect_big (xs : List Int) (a : Option Addr) (c : Nat) (kd op k : Int) (w : World) (h : 65536 < (xs.length : Int)) :
    Calls Yaan.prog 10 #[.slice a xs.length c, .int .u8 kd, .int .u8 op, .int .i64 k] w (TrueE w) := by
  go_enter Yaan.func10, Yaan.ntmps10
  go_wp2
  all_goals (go_ret; exact ⟨rfl, Ext.refl w⟩)

set_option maxHeartbeats 1000000 in
theorem fnColumnSelect_main (xs : List Int) (a : Option Addr) (c : Nat) (kd op k : Int) (w : World) (h : Hid (IntsAt w a xs)) (hl : (xs.length : Int) ≤ 65536) (b1 : 0 ≤ kd) (b2 : kd ≤ 255) (b3 : 0 ≤ op) (b4 : op ≤ 255) :
    Calls Yaan.prog 10 #[.slice a xs.length c, .int .u8 kd, .int .u8 op, .int .i64 k] w (TrueE w) := by
  have hk : kd % 3 = 0 ∨ kd % 3 = 1 ∨ kd % 3 = 2 := by omega
  have hv := encOf_valid (kd % 3) xs (by omega) hk
  have hre := fun w' (hw : Ext w w') => RefEncode (kd % 3) xs a c w' (h.out.ext hw) hk
  replace hre := hide hre
  replace hv := hide hv
  replace hk := hide hk
  go_enter Yaan.func10, Yaan.ntmps10
  go_wp2_with fail
  refine (hre.out w (Ext.refl w)).mono ?_
  rintro e w1 ⟨a1, a2, a3, a4, c1, c2, c3, c4, rfl, ho, hx1⟩
  clear hre hk
  have hcol := ho.colAt
  clear ho
  generalize encOf (kd % 3) xs = C at *
  obtain ⟨ck, cp, cd, cc, cr⟩ := C
  simp only [colV, colArg]
  have hlen := hv.out.2
  have l2 := hlen.dict
  have l3 := hlen.codes
  have l4 := hlen.runs
  simp only at l2 l3 l4
  have hV := hide hv.out.1
  have hV1 : Hid (¬ Valid ⟨ck, cp, cd, cc, cr⟩ ((xs.length : Int) + 1)) := fun hh => by have := Valid.unique hh hV.out; omega
  have hdl := dec_len _ _ hV.out
  clear hv hlen
  have hnew := Box.new w1 #[.int .i64 ck, .slice a1 cp.length c1, .slice a2 cd.length c2, .slice a3 cc.length c3, .slice a4 cr.length c4] 51
  have hxc : Ext w (w1.alloc (.cells #[.int .i64 ck, .slice a1 cp.length c1, .slice a2 cd.length c2, .slice a3 cc.length c3, .slice a4 cr.length c4] 51)) := hx1.alloc _
  have hcc := hcol.ext ((Ext.refl w1).alloc (.cells #[.int .i64 ck, .slice a1 cp.length c1, .slice a2 cd.length c2, .slice a3 cc.length c3, .slice a4 cr.length c4] 51))
  replace hnew := hide hnew
  replace hxc := hide hxc
  replace hcc := hide hcc
  replace hdl := hide hdl
  clear hcol hx1
  have ho7 : 7 ≤ 7 + op % 6 := by omega
  have ho12 : 7 + op % 6 ≤ 12 := by omega
  go_wp2_with fail
  refine (ColumnSelect_yes ck xs.length (7 + op % 6) k cp cd cc cr a1 a2 a3 a4 c1 c2 c3 c4 _ hcc l2 l3 l4 hV ho7 ho12).mono ?_
  rintro e w2 ⟨p1, q1, rfl, s1, hx2⟩
  have hb2 := hnew.out.ext hx2
  have f0 := hb2 0 _ rfl
  have f1 := hb2 1 _ rfl
  have f2 := hb2 2 _ rfl
  have f3 := hb2 3 _ rfl
  have f4 := hb2 4 _ rfl
  replace s1 := hide s1
  replace hx2 := hide hx2
  replace hb2 := hide hb2
  have hselb := selTo_len (7 + op % 6) k (dec ⟨ck, cp, cd, cc, cr⟩) (dec ⟨ck, cp, cd, cc, cr⟩).length
  have hsl : (selTo (7 + op % 6) k (dec ⟨ck, cp, cd, cc, cr⟩) (dec ⟨ck, cp, cd, cc, cr⟩).length).length < 2 ^ 40 := by have := hdl.out; omega
  generalize hsel : selTo (7 + op % 6) k (dec ⟨ck, cp, cd, cc, cr⟩) (dec ⟨ck, cp, cd, cc, cr⟩).length = S at *
  clear hselb hdl
  replace hsel := hide hsel
  go_wp2_with fail
  have hrc := RefColumnSelect_yes ck xs.length (7 + op % 6) k cp cd cc cr a1 a2 a3 a4 c1 c2 c3 c4 w2 (hcc.out.ext hx2.out) l2 l3 l4 hV (by omega) (by omega)
  rw [hsel.out] at hrc
  refine hrc.mono ?_
  clear hrc
  rintro e w3 ⟨p2, q2, rfl, s2, hx3⟩
  clear f0 f1 f2 f3 f4
  replace s2 := hide s2
  replace hx3 := hide hx3
  go_wp2_with fail
  refine (IntsEqual S S p1 p2 q1 q2 _ ((OwnI.ints s1.out).ext hx3.out) (OwnI.ints s2.out) hsl hsl).mono ?_
  rintro e w4 ⟨q, rfl, hq, hx4⟩
  have hq' : q = true := hq.2 rfl
  subst hq'
  clear hq
  have hxx := (hx2.out.trans hx3.out).trans hx4
  have hb4 := hnew.out.ext hxx
  have f0 := hb4 0 _ rfl
  have f1 := hb4 1 _ rfl
  have f2 := hb4 2 _ rfl
  have f3 := hb4 3 _ rfl
  have f4 := hb4 4 _ rfl
  replace hxx := hide hxx
  replace hb4 := hide hb4
  clear hx4 s1 s2 hb2
  by_cases hodd : op % 2 = 1
  · have hob : (op % 2 == 1) = true := by simp [hodd]
    replace hodd := hide hodd
    go_wp2_with fail
    refine (ColumnSelect_no ck xs.length 13 k cp cd cc cr a1 a2 a3 a4 c1 c2 c3 c4 _ (hcc.out.ext hxx.out) l2 l3 l4 (.inr (by omega))).mono ?_
    rintro e w5 ⟨rfl, hx5⟩
    have hx6 := hxx.out.trans hx5
    have hb5 := hb4.out.ext hx5
    clear f0 f1 f2 f3 f4
    have f0 := hb5 0 _ rfl
    have f1 := hb5 1 _ rfl
    have f2 := hb5 2 _ rfl
    have f3 := hb5 3 _ rfl
    have f4 := hb5 4 _ rfl
    replace hx6 := hide hx6
    clear hx5 hb5
    by_cases hlt : (xs.length : Int) < 65536
    · go_wp2_with fail
      refine (ColumnSelect_no ck ((xs.length : Int) + 1) (7 + op % 6) k cp cd cc cr a1 a2 a3 a4 c1 c2 c3 c4 _ (hcc.out.ext hx6.out) l2 l3 l4 (.inl hV1.out)).mono ?_
      rintro e w7 ⟨rfl, hx7⟩
      replace hx7 := hide hx7
      go_wp2
      go_ret
      exact ⟨rfl, (hxc.out.trans hx6.out).trans hx7.out⟩
    · have hd : decide ((xs.length : Int) < 65536) = false := by simpa using hlt
      replace hlt := hide hlt
      replace hl := hide hl
      clear l2 l3 l4 ho7 ho12
      go_wp2
      go_ret
      exact ⟨rfl, hxc.out.trans hx6.out⟩
  · have hob : (op % 2 == 1) = false := by simp [hodd]
    replace hodd := hide hodd
    go_wp2_with fail
    refine (ColumnSelect_no ck xs.length 6 k cp cd cc cr a1 a2 a3 a4 c1 c2 c3 c4 _ (hcc.out.ext hxx.out) l2 l3 l4 (.inr (by omega))).mono ?_
    rintro e w5 ⟨rfl, hx5⟩
    have hx6 := hxx.out.trans hx5
    have hb5 := hb4.out.ext hx5
    clear f0 f1 f2 f3 f4
    have f0 := hb5 0 _ rfl
    have f1 := hb5 1 _ rfl
    have f2 := hb5 2 _ rfl
    have f3 := hb5 3 _ rfl
    have f4 := hb5 4 _ rfl
    replace hx6 := hide hx6
    clear hx5 hb5
    by_cases hlt : (xs.length : Int) < 65536
    · go_wp2_with fail
      refine (ColumnSelect_no ck ((xs.length : Int) + 1) (7 + op % 6) k cp cd cc cr a1 a2 a3 a4 c1 c2 c3 c4 _ (hcc.out.ext hx6.out) l2 l3 l4 (.inl hV1.out)).mono ?_
      rintro e w7 ⟨rfl, hx7⟩
      replace hx7 := hide hx7
      go_wp2
      go_ret
      exact ⟨rfl, (hxc.out.trans hx6.out).trans hx7.out⟩
    · have hd : decide ((xs.length : Int) < 65536) = false := by simpa using hlt
      replace hlt := hide hlt
      replace hl := hide hl
      clear l2 l3 l4 ho7 ho12
      go_wp2
      go_ret
      exact ⟨rfl, hxc.out.trans hx6.out⟩
end Go.Proofs.Ybyaaw
