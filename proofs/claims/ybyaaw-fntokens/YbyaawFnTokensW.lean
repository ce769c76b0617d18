/- Walk: laws.FnTokens -/
import Derived.Test.YbyaawGen3
import Derived.Test.YbyaawGen5
import Derived.Test.YbyaawTokEq
import Derived.Test.YbyaawLex2
import Derived.Test.YbyaawLex3
namespace Go.Proofs.Ybyaaw
open Go.RowKit
set_option maxRecDepth 100000
set_option linter.unusedVariables false

theorem Tokenize (s : ByteArray) (R : Option (List (Int × Int))) (hR : tokens s = R) (w : World) : Calls Yaan.prog 15 #[.string s] w (RetToks R w) := by
  subst hR
  by_cases h : 65536 < (s.size : Int)
  · exact Tokenize_big s w h
  · exact Tokenize_main s w h
theorem RefTokenize (s : ByteArray) (R : Option (List (Int × Int))) (hR : tokens s = R) (w : World) : Calls Yaan.prog 17 #[.string s] w (RetToks R w) := by
  subst hR
  by_cases h : 65536 < (s.size : Int)
  · exact RefTokenize_big s w h
  · exact RefTokenize_main s w h

set_option maxHeartbeats 8000000 in
theorem FnTokens (zs : List Int) (a : Option Addr) (c : Nat) (s : ByteArray) (w : World) (h : Hid (BytesAt w a zs)) :
    Calls Yaan.prog 3 #[.slice a zs.length c, .string s] w (RetTrue w) := by
  by_cases hz : 1048576 < zs.length
  · have hz' : 1048576 < (zs.length : Int) := by omega
    go_enter Yaan.func3, Yaan.ntmps3
    go_wp2
    go_ret
    exact ⟨rfl, Ext.refl w⟩
  · have hz' : ¬ 1048576 < (zs.length : Int) := by omega
    by_cases hs : 1048576 < s.size
    · have hs' : 1048576 < (s.size : Int) := by omega
      go_enter Yaan.func3, Yaan.ntmps3
      go_wp2
      go_ret
      exact ⟨rfl, Ext.refl w⟩
    · have hs' : ¬ 1048576 < (s.size : Int) := by omega
      go_enter Yaan.func3, Yaan.ntmps3
      go_wp2_with fail
      refine (TokensFrom zs a c w h (by omega)).mono ?_
      rintro e w1 ⟨ts, p, cap, rfl, htl, hok, own, x1⟩
      have hpr := hide own.pairs
      have hok' := hide hok
      have hl1 : ts.length ≤ 1048576 := by omega
      have X1 : Hid (Ext w w1) := x1
      clear x1 own hok htl hz hs
      go_wp2_with fail
      refine (RenderTokens ts p cap w1 hpr hl1 hok').mono ?_
      rintro e w2 ⟨rfl, x2⟩
      have hpr2 := hide (hpr.out.ext x2)
      have X2 : Hid (Ext w w2) := X1.out.trans x2
      clear x2
      have hsz := tx_size (render ts)
      by_cases hb : (render ts).length ≤ 65536
      · have hb' : ((tx (render ts)).size : Int) ≤ 65536 := by omega
        have ht := hide (tokens_render ts hok'.out hb)
        clear hsz hb
        generalize tx (render ts) = q at *
        go_wp2_with fail
        refine (Tokenize q (some ts) ht.out w2).mono ?_
        rintro e w3 ⟨x3, ⟨hh, _⟩ | ⟨t3, a3, c3, hh, rfl, l3, o3⟩⟩
        · cases hh
        · cases hh
          have P1 := hide o3.pairs
          have P2 := hide (hpr2.out.ext x3)
          have X3 : Hid (Ext w w3) := X2.out.trans x3
          clear x3 o3 l3
          go_wp2_with fail
          refine (TokensEqual_same ts a3 p c3 cap w3 P1 P2 (by omega)).mono ?_
          rintro e w9 ⟨rfl, x9⟩
          have X9 : Hid (Ext w w9) := X3.out.trans x9
          clear x9
          go_wp2_with fail
          obtain ⟨R, hR⟩ : ∃ R, Hid (tokens s = R) := ⟨_, rfl⟩
          refine (Tokenize s R hR.out w9).mono ?_
          rintro e w4 ⟨x4, ⟨rfl, rfl⟩ | ⟨t1, a1, c1, rfl, rfl, l1, o1⟩⟩
          · have X4 : Hid (Ext w w4) := X9.out.trans x4
            clear x4
            go_wp2_with fail
            refine (RefTokenize s none hR.out w4).mono ?_
            rintro e w5 ⟨x5, ⟨_, rfl⟩ | ⟨t2, a2, c2, hh, _⟩⟩
            · have X5 : Hid (Ext w w5) := X4.out.trans x5
              clear x5
              go_wp2_with fail
              refine (TokensEqual_same [] none none 0 0 w5 (PairsAt.nil _ _) (PairsAt.nil _ _) (by simp)).mono ?_
              rintro e w6 ⟨rfl, x6⟩
              have X6 : Hid (Ext w w6) := X5.out.trans x6
              clear x6
              go_wp2
              go_ret
              exact ⟨rfl, X6.out⟩
            · cases hh
          · have X4 : Hid (Ext w w4) := X9.out.trans x4
            clear x4
            go_wp2_with fail
            refine (RefTokenize s (some t1) hR.out w4).mono ?_
            rintro e w5 ⟨x5, ⟨hh, _⟩ | ⟨t2, a2, c2, hh, rfl, l2, o2⟩⟩
            · cases hh
            · cases hh
              have P1 := hide (o1.pairs.ext x5)
              have P2 := hide o2.pairs
              have X5 : Hid (Ext w w5) := X4.out.trans x5
              clear x5 o1 o2 l2
              go_wp2_with fail
              refine (TokensEqual_same t1 a1 a2 c1 c2 w5 P1 P2 (by omega)).mono ?_
              rintro e w6 ⟨rfl, x6⟩
              have X6 : Hid (Ext w w6) := X5.out.trans x6
              clear x6
              go_wp2
              go_ret
              exact ⟨rfl, X6.out⟩
      · have hb' : ¬ ((tx (render ts)).size : Int) ≤ 65536 := by omega
        have ht : Hid (tokens (tx (render ts)) = none) := by unfold tokens; rw [if_pos (by omega)]; rfl
        clear hsz hb
        generalize tx (render ts) = q at *
        go_wp2_with fail
        refine (Tokenize q none ht.out w2).mono ?_
        rintro e w3 ⟨x3, ⟨_, rfl⟩ | ⟨t3, a3, c3, hh, _⟩⟩
        · have X3 : Hid (Ext w w3) := X2.out.trans x3
          clear x3
          go_wp2_with fail
          obtain ⟨R, hR⟩ : ∃ R, Hid (tokens s = R) := ⟨_, rfl⟩
          refine (Tokenize s R hR.out w3).mono ?_
          rintro e w4 ⟨x4, ⟨rfl, rfl⟩ | ⟨t1, a1, c1, rfl, rfl, l1, o1⟩⟩
          · have X4 : Hid (Ext w w4) := X3.out.trans x4
            clear x4
            go_wp2_with fail
            refine (RefTokenize s none hR.out w4).mono ?_
            rintro e w5 ⟨x5, ⟨_, rfl⟩ | ⟨t2, a2, c2, hh, _⟩⟩
            · have X5 : Hid (Ext w w5) := X4.out.trans x5
              clear x5
              go_wp2_with fail
              refine (TokensEqual_same [] none none 0 0 w5 (PairsAt.nil _ _) (PairsAt.nil _ _) (by simp)).mono ?_
              rintro e w6 ⟨rfl, x6⟩
              have X6 : Hid (Ext w w6) := X5.out.trans x6
              clear x6
              go_wp2
              go_ret
              exact ⟨rfl, X6.out⟩
            · cases hh
          · have X4 : Hid (Ext w w4) := X3.out.trans x4
            clear x4
            go_wp2_with fail
            refine (RefTokenize s (some t1) hR.out w4).mono ?_
            rintro e w5 ⟨x5, ⟨hh, _⟩ | ⟨t2, a2, c2, hh, rfl, l2, o2⟩⟩
            · cases hh
            · cases hh
              have P1 := hide (o1.pairs.ext x5)
              have P2 := hide o2.pairs
              have X5 : Hid (Ext w w5) := X4.out.trans x5
              clear x5 o1 o2 l2
              go_wp2_with fail
              refine (TokensEqual_same t1 a1 a2 c1 c2 w5 P1 P2 (by omega)).mono ?_
              rintro e w6 ⟨rfl, x6⟩
              have X6 : Hid (Ext w w6) := X5.out.trans x6
              clear x6
              go_wp2
              go_ret
              exact ⟨rfl, X6.out⟩
        · cases hh
end Go.Proofs.Ybyaaw
