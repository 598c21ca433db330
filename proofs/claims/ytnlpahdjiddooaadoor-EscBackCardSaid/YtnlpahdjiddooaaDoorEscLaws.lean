/- Get; the chapter's examples; the laws EscPuts and EscTakes. -/
import Derived.Test.YtnlpahdjiddooaaDoorEscBackL
import Derived.Lib.LaidTab
import Derived.LaidMore
import Derived.MakeChecks
namespace Go.Proofs.YtnlpahdjiddooaaDoor
open Go.RowKit Go.PlainAid
set_option linter.unusedVariables false

def gv (x : List UInt8 × Nat) : Value := .tuple #[.string (BA x.1), .int .i64 (x.2 : Nat)]
theorem ret_gv {x : List UInt8 × Nat} {a : List UInt8} {c : Nat} (h : x = (a, c)) : Ending.returned (.tuple #[.string (BA a), .int .i64 (c : Int)]) = .returned (gv x) := by subst h; rfl
theorem get_any (s : ByteArray) (w : World) (hs : s.size ≤ 100000) (hT : TabS w) :
    Calls Tryd.prog 13 #[.string s] w fun e w' => e = .returned (gv (getR (LS s))) ∧ Below w.heap.size w w' := by
  have HTK := Lib.hid (take_any s 0 w hs hT)
  obtain ⟨gr, hgr⟩ : ∃ x, getR (LS s) = x := ⟨_, rfl⟩
  have HGR := Lib.hid hgr
  rw [hgr]
  have HLL := Lib.hid (LS_len s)
  obtain ⟨tr, htr⟩ : ∃ x, takeR (LS s) 0 = x := ⟨_, rfl⟩
  unfold getR at hgr
  rw [htr] at hgr HTK
  obtain ⟨o, n, e⟩ := tr
  unfold tv at HTK
  dsimp only at HTK hgr
  have HR := Lib.hid hgr
  clear hgr htr hT
  by_cases he : e = 0
  · subst he
    by_cases hn : n < (s.size : Int)
    · have HE : Hid (gr = ([], 3)) := Lib.hid (by rw [← HR.out, if_pos rfl, if_pos (by rw [HLL.out]; exact hn)])
      go_enter Tryd.func13, Tryd.ntmps13
      go_wp2_with fail
      refine HTK.out.mono ?_
      rintro e w2 ⟨rfl, hb2⟩
      have HB2 := Lib.hid hb2
      clear hb2 HTK
      go_wp2
      go_ret2
      exact ⟨ret_gv HE.out, HB2.out⟩
    · have HE : Hid (gr = (o, 0)) := Lib.hid (by rw [← HR.out, if_pos rfl, if_neg (by rw [HLL.out]; exact hn)])
      go_enter Tryd.func13, Tryd.ntmps13
      go_wp2_with fail
      refine HTK.out.mono ?_
      rintro e w2 ⟨rfl, hb2⟩
      have HB2 := Lib.hid hb2
      clear hb2 HTK
      go_wp2
      go_ret2
      exact ⟨ret_gv HE.out, HB2.out⟩
  · have HE : Hid (gr = ([], e)) := Lib.hid (by rw [← HR.out, if_neg he])
    have q1 : ((e : Int) != 0) = true := by rw [bne_iff_ne]; omega
    clear he
    go_enter Tryd.func13, Tryd.ntmps13
    go_wp2_with fail
    refine HTK.out.mono ?_
    rintro e w2 ⟨rfl, hb2⟩
    have HB2 := Lib.hid hb2
    clear hb2 HTK
    go_wp2
    go_ret2
    exact ⟨ret_gv HE.out, HB2.out⟩
theorem rget_any (s : ByteArray) (w : World) (hs : s.size ≤ 100000) :
    Calls Tryd.prog 14 #[.string s] w fun e w' => e = .returned (gv (getR (LS s))) ∧ Below w.heap.size w w' := by
  have HTK := Lib.hid (rtake_any s 0 w hs)
  obtain ⟨gr, hgr⟩ : ∃ x, getR (LS s) = x := ⟨_, rfl⟩
  have HGR := Lib.hid hgr
  rw [hgr]
  have HLL := Lib.hid (LS_len s)
  obtain ⟨tr, htr⟩ : ∃ x, takeR (LS s) 0 = x := ⟨_, rfl⟩
  unfold getR at hgr
  rw [htr] at hgr HTK
  obtain ⟨o, n, e⟩ := tr
  unfold tv at HTK
  dsimp only at HTK hgr
  have HR := Lib.hid hgr
  clear hgr htr
  by_cases he : e = 0
  · subst he
    by_cases hn : n < (s.size : Int)
    · have HE : Hid (gr = ([], 3)) := Lib.hid (by rw [← HR.out, if_pos rfl, if_pos (by rw [HLL.out]; exact hn)])
      go_enter Tryd.func14, Tryd.ntmps14
      go_wp2_with fail
      refine HTK.out.mono ?_
      rintro e w2 ⟨rfl, hb2⟩
      have HB2 := Lib.hid hb2
      clear hb2 HTK
      go_wp2
      go_ret2
      exact ⟨ret_gv HE.out, HB2.out⟩
    · have HE : Hid (gr = (o, 0)) := Lib.hid (by rw [← HR.out, if_pos rfl, if_neg (by rw [HLL.out]; exact hn)])
      go_enter Tryd.func14, Tryd.ntmps14
      go_wp2_with fail
      refine HTK.out.mono ?_
      rintro e w2 ⟨rfl, hb2⟩
      have HB2 := Lib.hid hb2
      clear hb2 HTK
      go_wp2
      go_ret2
      exact ⟨ret_gv HE.out, HB2.out⟩
  · have HE : Hid (gr = ([], e)) := Lib.hid (by rw [← HR.out, if_neg he])
    have q1 : ((e : Int) != 0) = true := by rw [bne_iff_ne]; omega
    clear he
    go_enter Tryd.func14, Tryd.ntmps14
    go_wp2_with fail
    refine HTK.out.mono ?_
    rintro e w2 ⟨rfl, hb2⟩
    have HB2 := Lib.hid hb2
    clear hb2 HTK
    go_wp2
    go_ret2
    exact ⟨ret_gv HE.out, HB2.out⟩
theorem knows_any (w : World) (hT : TabS w) : Calls Tryd.prog 6 #[] w fun e w' => e = .returned (.bool true) ∧ Below w.heap.size w w' := by
  have HT := Lib.hid hT
  have hg := get_any ⟨#[34, 92, 120, 52, 49, 34]⟩ w (by decide) hT
  rw [show LS ⟨#[34, 92, 120, 52, 49, 34]⟩ = [34, 92, 120, 52, 49, 34] from rfl, get_knows] at hg
  unfold gv at hg
  dsimp only at hg
  have HGT := Lib.hid hg
  clear hg hT
  go_enter Tryd.func6, Tryd.ntmps6
  go_wp2_with fail
  refine HGT.out.mono ?_
  rintro e w2 ⟨rfl, hb2⟩
  have hp := put_any ⟨#[97, 34, 10, 200]⟩ w2 (by decide) (HT.out.below hb2)
  rw [show LS ⟨#[97, 34, 10, 200]⟩ = [97, 34, 10, 200] from rfl, put_knows] at hp
  have HPT := Lib.hid hp
  have HB2 := Lib.hid hb2
  have hg2 := hb2.size
  clear hb2 HGT hp
  go_wp2_with fail
  refine HPT.out.mono ?_
  rintro e w3 ⟨rfl, hb3⟩
  have HB3 := Lib.hid (HB2.out.trans (hb3.mono hg2))
  have hba : BA [34, 97, 92, 34, 92, 110, 92, 120, 99, 56, 34] = ⟨#[34, 97, 92, 34, 92, 110, 92, 120, 99, 56, 34]⟩ := rfl
  clear hb3
  go_wp2
  go_ret
  exact ⟨rfl, HB3.out⟩
theorem puts_any (b : Nat) (hb : b < 256) (s : ByteArray) (w : World) (hT : TabS w) :
    Calls Tryd.prog 3 #[.int .u8 (b : Int), .string s] w fun e w' => e = .returned (.bool true) ∧ Below w.heap.size w w' := by
  have HT := Lib.hid hT
  have HK := Lib.hid fun w hT => knows_any w hT
  by_cases hl : 1000 < s.size
  · have h1 : (1000 : Int) < (s.size : Int) := by omega
    have HK1 := Lib.hid (HK.out w hT)
    clear hT
    go_enter Tryd.func3, Tryd.ntmps3
    go_wp2_with fail
    refine HK1.out.mono ?_
    rintro e w2 ⟨rfl, hb2⟩
    have HB2 := Lib.hid hb2
    clear hb2
    go_wp2
    go_ret
    exact ⟨rfl, HB2.out⟩
  · have h1 : ¬ (1000 : Int) < (s.size : Int) := by omega
    have HC := Lib.hid (char_any b w hb hT)
    obtain ⟨cs, hcs⟩ : ∃ x, BA (chL b) = x := ⟨_, rfl⟩
    obtain ⟨ps, hps⟩ : ∃ x, BA (putL (LS s)) = x := ⟨_, rfl⟩
    have HRC : Hid (∀ w, Calls Tryd.prog 8 #[.int .u8 (b : Int)] w fun e w' => e = .returned (.string cs) ∧ Below w.heap.size w w') := Lib.hid (by rw [← hcs]; exact fun w => refchar_any b w hb)
    have HP : Hid (∀ w, TabS w → Calls Tryd.prog 9 #[.string s] w fun e w' => e = .returned (.string ps) ∧ Below w.heap.size w w') := Lib.hid (by rw [← hps]; exact fun w hT => put_any s w (by omega) hT)
    have HRP : Hid (∀ w, Calls Tryd.prog 10 #[.string s] w fun e w' => e = .returned (.string ps) ∧ Below w.heap.size w w') := Lib.hid (by rw [← hps]; exact fun w => refput_any s w (by omega))
    rw [hcs] at HC
    clear hT hcs hps
    go_enter Tryd.func3, Tryd.ntmps3
    go_wp2_with fail
    refine HC.out.mono ?_
    rintro e w2 ⟨rfl, hb2⟩
    have HB2 := Lib.hid hb2
    have hg2 := hb2.size
    clear hb2
    go_wp2_with fail
    refine (HRC.out _).mono ?_
    rintro e w3 ⟨rfl, hb3⟩
    have HB3 := Lib.hid (HB2.out.trans (hb3.mono hg2))
    have hg3 := HB3.out.size
    clear hb3
    go_wp2_with fail
    refine (HP.out _ (HT.out.below HB3.out)).mono ?_
    rintro e w4 ⟨rfl, hb4⟩
    have HB4 := Lib.hid (HB3.out.trans (hb4.mono hg3))
    have hg4 := HB4.out.size
    clear hb4
    go_wp2_with fail
    refine (HRP.out _).mono ?_
    rintro e w5 ⟨rfl, hb5⟩
    have HB5 := Lib.hid (HB4.out.trans (hb5.mono hg4))
    have hg5 := HB5.out.size
    clear hb5
    go_wp2_with fail
    refine (HK.out _ (HT.out.below HB5.out)).mono ?_
    rintro e w6 ⟨rfl, hb6⟩
    have HB6 := Lib.hid (HB5.out.trans (hb6.mono hg5))
    clear hb6
    go_wp2
    go_ret
    exact ⟨rfl, HB6.out⟩
theorem takes_any (s : ByteArray) (at_ : Int) (w : World) (hT : TabS w) :
    Calls Tryd.prog 4 #[.string s, .int .i64 at_] w fun e w' => e = .returned (.bool true) ∧ Below w.heap.size w w' := by
  have HT := Lib.hid hT
  have HK := Lib.hid fun w hT => knows_any w hT
  by_cases hl : 300 < s.size
  · have h1 : (300 : Int) < (s.size : Int) := by omega
    have HK1 := Lib.hid (HK.out w hT)
    clear hT
    go_enter Tryd.func4, Tryd.ntmps4
    go_wp2_with fail
    refine HK1.out.mono ?_
    rintro e w2 ⟨rfl, hb2⟩
    have HB2 := Lib.hid hb2
    clear hb2
    go_wp2
    go_ret
    exact ⟨rfl, HB2.out⟩
  · have h1 : ¬ (300 : Int) < (s.size : Int) := by omega
    have hs : s.size ≤ 100000 := by omega
    have HC := Lib.hid fun w hT => take_any s at_ w hs hT
    have HRC := Lib.hid fun w => rtake_any s at_ w hs
    have HP := Lib.hid fun w hT => get_any s w hs hT
    have HRP := Lib.hid fun w => rget_any s w hs
    obtain ⟨tr, htr⟩ : ∃ x, takeR (LS s) at_ = x := ⟨_, rfl⟩
    obtain ⟨gr, hgr⟩ : ∃ x, getR (LS s) = x := ⟨_, rfl⟩
    rw [htr] at HC HRC
    rw [hgr] at HP HRP
    obtain ⟨o, n, e1⟩ := tr
    obtain ⟨o2, e2⟩ := gr
    unfold tv at HC HRC
    unfold gv at HP HRP
    dsimp only at HC HRC HP HRP
    obtain ⟨os, hos⟩ : ∃ x, BA o = x := ⟨_, rfl⟩
    obtain ⟨os2, hos2⟩ : ∃ x, BA o2 = x := ⟨_, rfl⟩
    rw [hos] at HC HRC
    rw [hos2] at HP HRP
    clear hT htr hgr hos hos2
    go_enter Tryd.func4, Tryd.ntmps4
    go_wp2_with fail
    refine (HC.out w HT.out).mono ?_
    rintro e w2 ⟨rfl, hb2⟩
    have HB2 := Lib.hid hb2
    have hg2 := hb2.size
    clear hb2
    go_wp2_with fail
    refine (HRC.out _).mono ?_
    rintro e w3 ⟨rfl, hb3⟩
    have HB3 := Lib.hid (HB2.out.trans (hb3.mono hg2))
    have hg3 := HB3.out.size
    clear hb3
    go_wp2_with fail
    refine (HP.out _ (HT.out.below HB3.out)).mono ?_
    rintro e w4 ⟨rfl, hb4⟩
    have HB4 := Lib.hid (HB3.out.trans (hb4.mono hg3))
    have hg4 := HB4.out.size
    clear hb4
    go_wp2_with fail
    refine (HRP.out _).mono ?_
    rintro e w5 ⟨rfl, hb5⟩
    have HB5 := Lib.hid (HB4.out.trans (hb5.mono hg4))
    have hg5 := HB5.out.size
    clear hb5
    go_wp2_with fail
    refine (HK.out _ (HT.out.below HB5.out)).mono ?_
    rintro e w6 ⟨rfl, hb6⟩
    have HB6 := Lib.hid (HB5.out.trans (hb6.mono hg5))
    clear hb6
    go_wp2
    go_ret
    exact ⟨rfl, HB6.out⟩
end Go.Proofs.YtnlpahdjiddooaaDoor
