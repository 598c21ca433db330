/- bset: the chapter's example; BsetMakes. -/
import Derived.Test.YtglgmnhfpemfeaaDoorBFirst
import Derived.Test.YtglgmnhfpemfeaaDoorBTwo
namespace Go.Proofs.YtglgmnhfpemfeaaDoor
open Go.RowKit
set_option linter.unusedVariables false

theorem crow_new {α : Type} {C : α → List Value} {k : Nat} (hk : ∀ o, (C o).length = k) (w : World) (os : List α) (t : TypeId) (cs : Array Value) (hcs : cs = (os.flatMap C).toArray) (hl : os.length ≤ 9223372036854775807) (H : Nat) (hH : w.heap.size = H) :
    CRow C k (w.alloc (.cells cs t)) (some ⟨H, 0, none⟩) os.length os := by
  subst hcs hH
  refine ⟨rfl, hl, fun _ => ⟨_, 0, rfl, by simp, fun i o hi j v hj => ?_⟩⟩
  rw [Nat.zero_add, World.cell?_alloc_new]
  have := flat_get hk os i o hi j v hj
  simpa using this
def setC (S : Nat → Bool) : List Value := [.int .u64 (wd S 0), .int .u64 (wd S 1), .int .u64 (wd S 2), .int .u64 (wd S 3)]
theorem setC_len (S : Nat → Bool) : (setC S).length = 4 := rfl
theorem setC_one (S : Nat → Bool) : ∀ u ∈ setC S, u.oneCell' = true := fun u hu => by
  simp [setC] at hu
  rcases hu with rfl | rfl | rfl | rfl <;> rfl
theorem crow_srow {w : World} {a : Option Addr} {len : Nat} {ls : List (Nat → Bool)} (h : CRow setC 4 w a len ls) : SRow w a len ls := by
  obtain ⟨h1, h2, h3⟩ := h
  refine ⟨h1, h2, fun hp => ?_⟩
  obtain ⟨b, off, ha, hlt, hc⟩ := h3 hp
  refine ⟨b, off, ha, hlt, fun i S hi j hj => hc i S hi j _ ?_⟩
  have : j = 0 ∨ j = 1 ∨ j = 2 ∨ j = 3 := by omega
  rcases this with rfl | rfl | rfl | rfl <;> rfl
def kS : Nat → Bool := anyS [spanS 97 99 256, fun x => x == 120]
set_option maxRecDepth 100000 in
theorem kRuns : runsF (bytesL kS 256) = [(97, 99), (120, 120)] := by decide +kernel
set_option maxRecDepth 100000 in
theorem kCnt : cntS kS 256 = 4 := by decide +kernel
set_option maxRecDepth 100000 in
theorem kFirst : firstF emptyS = -1 := by
  have : bytesL emptyS 256 = [] := by decide +kernel
  unfold firstF; rw [this]
attribute [local go_sem ↓] eqS_eq eqS_eq' eqR_eq eqR_eq'
set_option maxHeartbeats 2000000 in
theorem knows_any (w : World) (hT : TabT w) : Calls Tryd.prog 12 #[] w fun e w' => e = .returned (.bool true) ∧ Below w.heap.size w w' := by
  have hspan := fun w' => bspan_any 97 99 w'
  have hone := fun w' => bone_any 120 w' (by decide)
  have hall := fun w' a len cap h => ball_any w' a len cap [spanS 97 99 256, fun x => x == 120] h
  have hruns := fun w' h => runs_any kS w' h
  have hcount := fun w' => count_any kS w'
  have hfirst := fun w' h => first_any emptyS w' h
  rw [setV_empty] at hfirst
  rw [kFirst] at hfirst
  rw [kCnt] at hcount
  have hkS : anyS [spanS 97 99 256, fun x => x == 120] = kS := rfl
  rw [hkS] at hall
  unfold setV at hspan hone hall hruns hcount
  have HSPAN := Lib.hid hspan
  have HONE := Lib.hid hone
  have HALL := Lib.hid hall
  have HRUNS := Lib.hid hruns
  have HCOUNT := Lib.hid hcount
  have HFIRST := Lib.hid hfirst
  have HT := Lib.hid hT
  clear hspan hone hall hruns hcount hfirst hkS hT
  go_enter Tryd.func12, Tryd.ntmps12
  go_wp2_with fail
  refine (HSPAN.out _).mono ?_
  rintro e w1 ⟨rfl, hb1⟩
  have HB1 := Lib.hid hb1
  clear hb1
  go_wp2_with fail
  refine (HONE.out _).mono ?_
  rintro e w2 ⟨rfl, hb2⟩
  have HB2 := Lib.hid (HB1.out.trans (hb2.mono HB1.out.size))
  clear hb2
  have HB3 := Lib.hid (HB2.out.alloc HB2.out.size (.cells ([spanS 97 99 256, fun x => x == 120].flatMap setC).toArray 24))
  have HR3 := Lib.hid (crow_srow (crow_new setC_len w2 [spanS 97 99 256, fun x => x == 120] 24 _ rfl (by decide) w2.heap.size rfl))
  have HAL3 := Lib.hid (HALL.out _ _ _ 2 HR3.out)
  go_wp2_with fail
  refine HAL3.out.mono ?_
  rintro e w4 ⟨rfl, hb4⟩
  have HB4 := Lib.hid (HB3.out.trans (hb4.mono HB3.out.size))
  clear hb4
  have hz : SetAt (w4.alloc (.cells #[.int .u64 (wd kS 0), .int .u64 (wd kS 1), .int .u64 (wd kS 2), .int .u64 (wd kS 3)] 24)) w4.heap.size kS := heap_alloc_new w4 _
  have HZ := Lib.hid hz
  have HB5 := Lib.hid (HB4.out.alloc HB4.out.size (.cells #[.int .u64 (wd kS 0), .int .u64 (wd kS 1), .int .u64 (wd kS 2), .int .u64 (wd kS 3)] 24))
  clear hz
  have HRU := Lib.hid (HRUNS.out _ (HT.out.below HB5.out))
  go_wp2_with fail
  refine HRU.out.mono ?_
  rintro e w6 ⟨v6, rfl, hown, hb6⟩
  rw [kRuns] at hown
  obtain ⟨A6, c6, rfl, _, _⟩ := own_form hown
  have HO6 := Lib.hid (own_crow rn2_len hown (by decide))
  have HB6 := Lib.hid (HB5.out.trans (hb6.mono HB5.out.size))
  have HZ6 : Hid (SetAt w6 w4.heap.size kS) := Lib.hid (HZ.out.below hb6 (by simp))
  clear hown hb6
  have HB7 := Lib.hid (HB6.out.alloc HB6.out.size (.cells ([(97, 99), (120, 120)].flatMap rn2).toArray 32))
  have HR7 := Lib.hid (crow_new rn2_len w6 [(97, 99), (120, 120)] 32 _ rfl (by decide) w6.heap.size rfl)
  have HSR := Lib.hid (sameruns_yes _ A6 _ 2 c6 2 [(97, 99), (120, 120)] (HO6.out.below ((Below.refl _ _).alloc (Nat.le_refl _) (.cells ([(97, 99), (120, 120)].flatMap rn2).toArray 32))) HR7.out)
  have HZ7 : Hid (SetAt (w6.alloc (.cells ([(97, 99), (120, 120)].flatMap rn2).toArray 32)) w4.heap.size kS) := Lib.hid (HZ6.out.below ((Below.refl _ _).alloc (Nat.le_refl _) _) HZ6.out.lt)
  go_wp2_with fail
  refine HSR.out.mono ?_
  rintro e w8 ⟨rfl, q, hw8⟩
  have HB8 : Hid (Below w.heap.size w w8) := Lib.hid (by rw [hw8]; exact HB7.out.trans ((below_drewN _ q).mono HB7.out.size))
  have HZ8 : Hid (SetAt w8 w4.heap.size kS) := Lib.hid (by rw [hw8]; exact HZ7.out)
  clear hw8
  have HF8 := Lib.hid (HFIRST.out w8 (HT.out.below HB8.out))
  go_wp2_with fail
  refine HF8.out.mono ?_
  rintro e w9 ⟨rfl, hb9⟩
  have HB9 := Lib.hid (HB8.out.trans (hb9.mono HB8.out.size))
  have HZ9 : Hid (SetAt w9 w4.heap.size kS) := Lib.hid (HZ8.out.below hb9 HZ8.out.lt)
  clear hb9
  have c0 := HZ9.out.cell 0 (by omega)
  have c1 := HZ9.out.cell 1 (by omega)
  have c2 := HZ9.out.cell 2 (by omega)
  have c3 := HZ9.out.cell 3 (by omega)
  go_wp2_with fail
  refine (HCOUNT.out _).mono ?_
  rintro e w10 ⟨rfl, hb10⟩
  have HB10 := Lib.hid (HB9.out.trans (hb10.mono HB9.out.size))
  clear hb10
  go_wp2
  go_ret
  exact ⟨rfl, HB10.out⟩
theorem eqS_refl (S : Nat → Bool) (w : World) : (eqS (.agg #[.int .u64 (wd S 0), .int .u64 (wd S 1), .int .u64 (wd S 2), .int .u64 (wd S 3)]) (.agg #[.int .u64 (wd S 0), .int .u64 (wd S 1), .int .u64 (wd S 2), .int .u64 (wd S 3)])).run Tryd.prog w = .ok true w := by
  rw [run_eqS]; simp
set_option maxHeartbeats 1000000 in
theorem makes_any (b : Nat) (hb : b < 256) (lo hi : Int) (w : World) (hT : TabT w) :
    Calls Tryd.prog 3 #[.int .u8 b, .int .i64 lo, .int .i64 hi] w fun e w' => e = .returned (.bool true) ∧ Below w.heap.size w w' := by
  have h1 := fun w' => bone_any b w' hb
  have h2 := fun w' => one_any b w' hb
  have h3 := fun w' => bspan_any lo hi w'
  have h4 := fun w' => span_any lo hi w'
  have h5 := fun w' h => knows_any w' h
  have e1 := fun w' => eqS_refl (fun x => x == b) w'
  have e2 := fun w' => eqS_refl (spanS lo hi 256) w'
  unfold setV at h1 h2 h3 h4
  have H1 := Lib.hid h1
  have H2 := Lib.hid h2
  have H3 := Lib.hid h3
  have H4 := Lib.hid h4
  have H5 := Lib.hid h5
  have HT := Lib.hid hT
  clear h1 h2 h3 h4 h5 hT hb
  go_enter Tryd.func3, Tryd.ntmps3
  go_wp2_with fail
  refine (H1.out _).mono ?_
  rintro e w1 ⟨rfl, hb1⟩
  have HB1 := Lib.hid hb1
  clear hb1
  go_wp2_with fail
  refine (H2.out _).mono ?_
  rintro e w2 ⟨rfl, hb2⟩
  have HB2 := Lib.hid (HB1.out.trans (hb2.mono HB1.out.size))
  clear hb2
  go_wp2_with fail
  refine (H3.out _).mono ?_
  rintro e w3 ⟨rfl, hb3⟩
  have HB3 := Lib.hid (HB2.out.trans (hb3.mono HB2.out.size))
  clear hb3
  go_wp2_with fail
  refine (H4.out _).mono ?_
  rintro e w4 ⟨rfl, hb4⟩
  have HB4 := Lib.hid (HB3.out.trans (hb4.mono HB3.out.size))
  clear hb4
  have H6 := Lib.hid (H5.out w4 (HT.out.below HB4.out))
  go_wp2_with fail
  refine H6.out.mono ?_
  rintro e w5 ⟨rfl, hb5⟩
  have HB5 := Lib.hid (HB4.out.trans (hb5.mono HB4.out.size))
  clear hb5
  go_wp2
  go_ret
  exact ⟨rfl, HB5.out⟩
end Go.Proofs.YtglgmnhfpemfeaaDoor
