/- A text between quotes. -/
import Derived.Test.YtnlpahdjiddooaaDoorEscChar
import Derived.Test.YtnlpahdjiddooaaDoorEscShelf
namespace Go.Proofs.YtnlpahdjiddooaaDoor
open Go.RowKit Go.PlainAid
set_option linter.unusedVariables false

def flatC (l : List UInt8) : List UInt8 := l.flatMap fun c => chL c.toNat
def putL (l : List UInt8) : List UInt8 := 34 :: (flatC l ++ [34])
def LS (s : ByteArray) : List UInt8 := s.data.toList
theorem BA_LS (s : ByteArray) : BA (LS s) = s := rfl
theorem LS_len (s : ByteArray) : (LS s).length = s.size := Array.length_toList
theorem LS_at (s : ByteArray) (k : Nat) (h : k < s.size) : (LS s)[k]? = some (s[k]'h) := by
  show s.data.toList[k]? = _
  rw [Array.getElem?_toList, Array.getElem?_eq_getElem h]; rfl
theorem flatC_snoc (l : List UInt8) (c : UInt8) : flatC (l ++ [c]) = flatC l ++ chL c.toNat := by simp [flatC]
theorem take_snoc {α : Type} {l : List α} {k : Nat} {x : α} (h : l[k]? = some x) : l.take (k + 1) = l.take k ++ [x] := by rw [List.take_add_one, h]; rfl
theorem chL_len (b : Nat) : 1 ≤ (chL b).length ∧ (chL b).length ≤ 4 := by
  unfold chL
  by_cases h1 : b = 10
  · rw [if_pos h1]; decide
  rw [if_neg h1]
  by_cases h1 : b = 9
  · rw [if_pos h1]; decide
  rw [if_neg h1]
  by_cases h1 : b = 13
  · rw [if_pos h1]; decide
  rw [if_neg h1]
  by_cases h1 : b = 34
  · rw [if_pos h1]; decide
  rw [if_neg h1]
  by_cases h1 : b = 92
  · rw [if_pos h1]; decide
  rw [if_neg h1]
  by_cases h1 : 32 ≤ b ∧ b ≤ 126
  · rw [if_pos h1]; simp
  · rw [if_neg h1]; simp
theorem flatC_len : ∀ l : List UInt8, (flatC l).length ≤ 4 * l.length
  | [] => by simp [flatC]
  | c :: l => by
    have h1 := (chL_len c.toNat).2
    have h2 := flatC_len l
    have e : flatC (c :: l) = chL c.toNat ++ flatC l := by simp [flatC]
    rw [e, List.length_append, List.length_cons]; omega
theorem putL_len (l : List UInt8) : (putL l).length ≤ 4 * l.length + 2 := by
  have := flatC_len l
  simp [putL]; omega
set_option maxHeartbeats 1000000 in
theorem put_any (s : ByteArray) (w : World) (hs : s.size ≤ 10000) (hT : TabS w) :
    Calls Tryd.prog 9 #[.string s] w fun e w' => e = .returned (.string (BA (putL (LS s)))) ∧ Below w.heap.size w w' := by
  have HT := Lib.hid hT
  obtain ⟨g, hg⟩ : ∃ g, w.heap.size = g := ⟨_, rfl⟩
  have HG := Lib.hid hg
  have HFR := Lib.hid (Lib.fresh_isBuilder 38 5 w)
  have HB0 := Lib.hid ((Below.refl w.heap.size w).alloc (Nat.le_refl _) (.cells #[.pointer none, .slice none 0 0] 38))
  have HW1 := Lib.hid (wbyte_any w.heap.size w.heap.size [] 34 (w.alloc (.cells #[.pointer none, .slice none 0 0] 38)) HFR.out (by simp) (by simp))
  have HLL := Lib.hid (LS_len s)
  rw [hg] at HW1 HB0
  clear hT
  go_enter Tryd.func9, Tryd.ntmps9
  go_wp2_with fail
  try rw [hg]
  refine HW1.out.mono ?_
  rintro e w1 ⟨rfl, hbl, hb⟩
  have HBL := Lib.hid hbl
  have HB1 := Lib.hid (HB0.out.trans hb)
  clear hbl hb HW1 HFR hg HB0
  go_wp2
  go_loopw [8] (fun i wr => ∃ k : Nat, k ≤ s.size ∧ i = .int .i64 (k : Int) ∧ Bld g g (34 :: flatC ((LS s).take k)) wr ∧ Below g w wr) (fun i _ => s.size - (intOf i).toNat)
  case atStart => exact ⟨0, by omega, rfl, HBL.out, HB1.out⟩
  case round =>
    obtain ⟨k, hk, rfl, hbl, hb⟩ := hrel
    have HBLk := Lib.hid hbl
    have HBk := Lib.hid hb
    have hgl : g ≤ wr.heap.size := by have := HG.out; have := hb.size; omega
    have HLEN : Hid ((34 :: flatC ((LS s).take k)).length ≤ 40001) := Lib.hid (by
      have h1 := flatC_len ((LS s).take k)
      have h2 : ((LS s).take k).length ≤ k := List.length_take_le _ _
      simp; omega)
    clear hbl hb
    by_cases hlt : k < s.size
    · have HAT := Lib.hid (take_snoc (LS_at s k hlt))
      obtain ⟨c, hc⟩ : ∃ c, s[k]'hlt = c := ⟨_, rfl⟩
      rw [hc] at HAT
      obtain ⟨n, hn⟩ : ∃ n : Nat, c.toNat = n := ⟨_, rfl⟩
      have hcn : (s[k]'hlt).toNat = n := by rw [hc, hn]
      have hcn2 : ((s[k]'hlt).toNat : Int) = (n : Int) := by rw [hcn]
      have hn256 : n < 256 := by rw [← hn]; exact c.toNat_lt
      have HNX : Hid (34 :: flatC ((LS s).take (k + 1)) = (34 :: flatC ((LS s).take k)) ++ chL n) := Lib.hid (by rw [HAT.out, flatC_snoc, hn]; rfl)
      have HCH := Lib.hid (char_any n wr hn256 (HT.out.below (by rw [HG.out]; exact HBk.out)))
      have HCL := Lib.hid (chL_len n).2
      obtain ⟨xs, hxs⟩ : ∃ xs, 34 :: flatC ((LS s).take k) = xs := ⟨_, rfl⟩
      obtain ⟨ys, hys⟩ : ∃ ys, chL n = ys := ⟨_, rfl⟩
      rw [hxs] at HNX HBLk HLEN
      rw [hys] at HNX HCH HCL
      clear hc hn HAT hxs hys
      go_wp2_with fail
      refine HCH.out.mono ?_
      rintro e w2 ⟨rfl, hb2⟩
      have HB2 := Lib.hid (HBk.out.trans (hb2.mono hgl))
      have hg2 : g ≤ w2.heap.size := by have := HG.out; have := HB2.out.size; omega
      have HIB : Hid (Lib.IsBuilder 38 5 g g (Lib.byteCells xs) w2) := Lib.hid (Or.inr (by
        obtain ⟨h1, v, h2, h3, h4⟩ := HBLk.out
        exact ⟨h1, v, (hb2.block g (Lib.BuilderAt.lt ⟨h1, v, h2, h3, h4⟩)).trans h2, ownB h3 hb2, h4⟩))
      have HWS := Lib.hid (wstr_any g g xs ys w2 HIB.out (by have := HLEN.out; have := HCL.out; omega) hg2)
      clear hb2 HIB HCH
      go_wp2_with fail
      refine HWS.out.mono ?_
      rintro e w3 ⟨⟨v3, rfl⟩, hbl3, hb3⟩
      have HBL3 := Lib.hid hbl3
      have HB3 := Lib.hid (HB2.out.trans hb3)
      clear hbl3 hb3 HWS
      go_wp2
      go_roundw
      case rel => exact ⟨k + 1, by omega, by go_num, by rw [HNX.out]; exact HBL3.out, HB3.out⟩
      case measure => simp [intOf]; omega
    · have hks : k = s.size := by omega
      subst hks
      have HK : Hid ((LS s).take s.size = LS s) := by show _ = _; exact List.take_of_length_le (by rw [HLL.out]; exact Nat.le_refl _)
      rw [HK.out] at HBLk HLEN
      have HW2 := Lib.hid (wbyte_any g g _ 34 wr (Or.inr HBLk.out) (by have := HLEN.out; omega) hgl)
      have HPL : Hid ((34 :: flatC (LS s)) ++ [34] = putL (LS s)) := Lib.hid rfl
      rw [HPL.out] at HW2
      clear HPL
      go_wp2_with fail
      refine HW2.out.mono ?_
      rintro e w4 ⟨rfl, hbl4, hb4⟩
      have HB4 := Lib.hid (HBk.out.trans hb4)
      have hg4 : g ≤ w4.heap.size := by have := HG.out; have := HB4.out.size; omega
      have HST := Lib.hid (Builder_String_any g g (putL (LS s)) w4 (Or.inr hbl4) hg4)
      clear hbl4 hb4 HW2
      go_wp2_with fail
      refine HST.out.mono ?_
      rintro e w5 ⟨rfl, hb5⟩
      have HB5 := Lib.hid (HB4.out.trans hb5)
      clear hb5
      go_wp2
      go_ret
      exact ⟨rfl, by rw [HG.out]; exact HB5.out⟩
set_option maxHeartbeats 1000000 in
theorem refput_any (s : ByteArray) (w : World) (hs : s.size ≤ 10000) :
    Calls Tryd.prog 10 #[.string s] w fun e w' => e = .returned (.string (BA (putL (LS s)))) ∧ Below w.heap.size w w' := by
  obtain ⟨g, hg⟩ : ∃ g, w.heap.size = g := ⟨_, rfl⟩
  have HG := Lib.hid hg
  have HLL := Lib.hid (LS_len s)
  have HB0 := Lib.hid (show Below g w w by rw [← hg]; exact Below.refl _ _)
  clear hg
  go_enter Tryd.func10, Tryd.ntmps10
  go_wp2
  go_loopw [3, 4] (fun t i wr => ∃ k : Nat, k ≤ s.size ∧ i = .int .i64 (k : Int) ∧ t = .string (BA (34 :: flatC ((LS s).take k))) ∧ Below g w wr) (fun _ i _ => s.size - (intOf i).toNat)
  case atStart => exact ⟨0, by omega, rfl, rfl, HB0.out⟩
  case round =>
    obtain ⟨k, hk, rfl, rfl, hb⟩ := hrel
    have HBk := Lib.hid hb
    have hgl : g ≤ wr.heap.size := by have := HG.out; have := hb.size; omega
    have HLEN : Hid ((34 :: flatC ((LS s).take k)).length ≤ 40001) := Lib.hid (by
      have h1 := flatC_len ((LS s).take k)
      have h2 : ((LS s).take k).length ≤ k := List.length_take_le _ _
      simp; omega)
    clear hb
    by_cases hlt : k < s.size
    · have HAT := Lib.hid (take_snoc (LS_at s k hlt))
      obtain ⟨c, hc⟩ : ∃ c, s[k]'hlt = c := ⟨_, rfl⟩
      rw [hc] at HAT
      obtain ⟨n, hn⟩ : ∃ n : Nat, c.toNat = n := ⟨_, rfl⟩
      have hcn : (s[k]'hlt).toNat = n := by rw [hc, hn]
      have hcn2 : ((s[k]'hlt).toNat : Int) = (n : Int) := by rw [hcn]
      have hn256 : n < 256 := by rw [← hn]; exact c.toNat_lt
      have HNX : Hid (34 :: flatC ((LS s).take (k + 1)) = (34 :: flatC ((LS s).take k)) ++ chL n) := Lib.hid (by rw [HAT.out, flatC_snoc, hn]; rfl)
      have HCH := Lib.hid (refchar_any n wr hn256)
      obtain ⟨xs, hxs⟩ : ∃ xs, 34 :: flatC ((LS s).take k) = xs := ⟨_, rfl⟩
      obtain ⟨ys, hys⟩ : ∃ ys, chL n = ys := ⟨_, rfl⟩
      rw [hxs] at HNX HLEN ⊢
      rw [hys] at HNX HCH
      have HAPP := Lib.hid (BA_app xs ys)
      have hbx : (BA xs).size ≤ 40001 := by rw [BA_size]; exact HLEN.out
      have hby : (BA ys).size ≤ 4 := by rw [BA_size, ← hys]; exact (chL_len n).2
      clear hc hn HAT hxs hys
      go_wp2_with fail
      refine HCH.out.mono ?_
      rintro e w2 ⟨rfl, hb2⟩
      have HB2 := Lib.hid (HBk.out.trans (hb2.mono hgl))
      clear hb2 HCH
      go_wp2
      go_roundw
      case rel => exact ⟨k + 1, by omega, by go_num, by rw [HNX.out, ← HAPP.out], HB2.out⟩
      case measure => simp [intOf]; omega
    · have hks : k = s.size := by omega
      subst hks
      have HK : Hid ((LS s).take s.size = LS s) := by show _ = _; exact List.take_of_length_le (by rw [HLL.out]; exact Nat.le_refl _)
      rw [HK.out]
      rw [HK.out] at HLEN
      have HPL : Hid (BA (34 :: flatC (LS s)) ++ ⟨#[34]⟩ = BA (putL (LS s))) := Lib.hid (BA_app (34 :: flatC (LS s)) [34])
      have hbx : (BA (34 :: flatC (LS s))).size ≤ 40001 := by rw [BA_size]; exact HLEN.out
      obtain ⟨xs, hxs⟩ : ∃ xs, BA (34 :: flatC (LS s)) = xs := ⟨_, rfl⟩
      rw [hxs] at HPL hbx ⊢
      clear hxs
      go_wp2
      go_ret
      exact ⟨by rw [← HPL.out]; rfl, by rw [HG.out]; exact HBk.out⟩
end Go.Proofs.YtnlpahdjiddooaaDoor
