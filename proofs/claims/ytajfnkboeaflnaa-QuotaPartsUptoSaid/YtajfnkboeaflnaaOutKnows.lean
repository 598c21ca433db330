import Derived.Test.YtajfnkboeaflnaaOutPad
namespace Go.Proofs.Ytajfnkboeaflnaa
open Go.RowKit

theorem kept_own {w w' : World} {g B : Nat} {r : Option Nat} (h : Kept g r w w') (hg : B ≤ g) (hr : ∀ k, r = some k → B ≤ k) (hB : B ≤ w.heap.size) : Below B w w' := Kept.below (Below.refl B w) hB h hg hr
set_option maxHeartbeats 400000 in
theorem knows_any (w : World) : Calls Try.prog 9 #[] w fun e w' => e = .returned (.bool true) ∧ Below w.heap.size w w' := by
  have HN := Lib.hid (new_good w 5 (by decide))
  go_enter Try.func9, Try.ntmps9
  go_wp2_with fail
  refine HN.out.mono ?_
  rintro e w1 ⟨rfl, ho1, hs1, hb1⟩
  have h1 := ho1.below ((Below.refl w1.heap.size w1).alloc (Nat.le_refl _) (.cells #[.string ⟨#[97, 98]⟩, .string ⟨#[99, 100]⟩] 9))
  have H1 := Lib.hid (put_yes _ _ _ _ _ h1 (by decide) _ _ 2 _ (srow_alloc w1 [⟨#[97, 98]⟩, ⟨#[99, 100]⟩] 9 (by decide) (by decide)) (fun _ p hp => by
    have : p = ⟨w1.heap.size, 0, none⟩ := by simpa using hp.symm
    subst this
    exact ⟨by show w1.heap.size ≠ w.heap.size; omega, by simp [Value.ownBlock]⟩) (by decide))
  have HB1 := Lib.hid hb1
  have HS1 := Lib.hid hs1
  clear ho1 h1 hb1 hs1
  go_wp2_with fail
  refine H1.out.mono ?_
  rintro e w2 ⟨rfl, hk2, v2, hr2, ho2⟩
  have hr2' : ∀ k, v2.ownBlock = some k → w.heap.size ≤ k := by
    refine hr2.ge (fun k hk => by simp [Value.ownBlock] at hk) ?_
    have := HS1.out; simp; omega
  have hb2 : Below w.heap.size w w2 := hk2.below (HB1.out.alloc HB1.out.size _) (by have := HS1.out; simp; omega) (Nat.le_refl _) (fun k hk => by simp [Value.ownBlock] at hk)
  have e2 : ([] : List UInt8) ++ flat [⟨#[97, 98]⟩, ⟨#[99, 100]⟩] = [97, 98, 99, 100] := rfl
  rw [e2] at ho2
  have h2 := ho2.below ((Below.refl w2.heap.size w2).alloc (Nat.le_refl _) (.cells #[.string ⟨#[101, 102]⟩] 9))
  have H2 := Lib.hid (put_no _ _ _ _ _ h2 (by decide) (by decide) _ _ 1 _ (srow_alloc w2 [⟨#[101, 102]⟩] 9 (by decide) (by decide)) (by decide) (by decide))
  have HB2 := Lib.hid hb2
  have HR2 := Lib.hid hr2'
  have HO2 := Lib.hid h2
  clear hk2 hr2 ho2 hr2' hb2 e2 h2
  go_wp2_with fail
  refine H2.out.mono ?_
  rintro e w3 ⟨rfl, hb3⟩
  have ho3 := HO2.out.below hb3
  have H3 := Lib.hid (show Calls Try.prog 13 #[.pointer (some ⟨w.heap.size, 0, none⟩), .int .i64 1, .int .u8 120] w3 _ from pad_yes _ _ _ _ _ ho3 (by decide) 1 120 (by decide))
  have HB3 := Lib.hid ((HB2.out.alloc HB2.out.size (.cells #[.string ⟨#[101, 102]⟩] 9)).trans (hb3.mono (by have := HB2.out.size; simp; omega)))
  clear hb3 ho3
  go_wp2_with fail
  refine H3.out.mono ?_
  rintro e w4 ⟨rfl, hk4, v4, hr4, ho4⟩
  have HB4 := Lib.hid (hk4.below HB3.out HB3.out.size (Nat.le_refl _) HR2.out)
  have H4 := Lib.hid (show Calls Try.prog 8 #[.pointer (some ⟨w.heap.size, 0, none⟩)] w4 (fun e w' => e = .returned (.string ⟨#[97, 98, 99, 100, 120]⟩) ∧ w' = w4) from text_any _ _ _ _ _ ho4)
  clear hk4 hr4 ho4
  go_wp2_with fail
  refine H4.out.mono ?_
  rintro e w5 ⟨rfl, rfl⟩
  go_wp2_with fail
  go_ret
  exact ⟨rfl, HB4.out⟩
end Go.Proofs.Ytajfnkboeaflnaa
