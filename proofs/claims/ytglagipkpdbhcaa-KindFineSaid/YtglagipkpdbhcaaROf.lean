import Derived.Test.YtglagipkpdbhcaaOf
namespace Go.Proofs.Ytglagipkpdbhcaa
open Go.RowKit Go.Sort

theorem all_sig (ls : List (Nat → Bool)) (x y : Nat) : (ls.all fun S => S x == S y) = decide (sigL ls x = sigL ls y) := by
  unfold sigL
  induction ls with
  | nil => simp
  | cons S t ih =>
    rw [List.all_cons, ih]
    by_cases h1 : S x = S y <;> by_cases h2 : (t.map fun S => S x) = (t.map fun S => S y) <;> simp_all

set_option maxHeartbeats 1000000 in
set_option maxRecDepth 100000 in
theorem refof_any (ls : List (Nat → Bool)) (a : Option Addr) (len cap : Nat) (w : World) (h : SRow w a len ls) :
    Calls Try.prog 11 #[.slice a len cap] w fun e w' => e = .returned (.tuple #[.agg (arrC (clsL ls)), .int .i64 (cnt (sigL ls) 256)]) ∧ Below w.heap.size w w' := by
  have hal := run_zero_arr
  have hbu := run_build_arr
  have a2 := (ArrAt.new w zeroC).alloc (.cells (arrC zeroC) 24)
  have d2 : ArrAt ((w.alloc (.cells (arrC zeroC) 24)).alloc (.cells (arrC zeroC) 24)) (w.heap.size + 1) zeroC := BlkAt.new _ _ _ (by simp)
  have bel : Below w.heap.size w ((w.alloc (.cells (arrC zeroC) 24)).alloc (.cells (arrC zeroC) 24)) := ((Below.refl _ _).alloc (Nat.le_refl _) _).alloc (by simp) _
  have hs : ((w.alloc (.cells (arrC zeroC) 24)).alloc (.cells (arrC zeroC) 24)).heap.size = w.heap.size + 2 := by simp
  have A2 := Lib.hid a2
  have D2 := Lib.hid d2
  have BEL := Lib.hid bel
  have HS := Lib.hid hs
  clear a2 d2 bel hs
  go_enter Try.func11, Try.ntmps11
  go_wp2_with (refine wpList_store_arr rfl _ _ rfl (w.heap.size + 1) zeroC zeroC rfl rfl D2.out ?_; intro w1 hD hB1 hO1 hS1)
  have C1 : ArrAt w1 w.heap.size zeroC := (hO1 _ (by omega)).trans A2.out
  have bel1 : Below w.heap.size w w1 := BEL.out.trans (hB1 _ (by omega))
  have hs1 : w1.heap.size = w.heap.size + 2 := hS1.trans HS.out
  clear A2 D2 BEL HS hB1 hO1 hS1 hal hbu
  generalize hg3 : w.heap.size + 1 = g3 at hD ⊢
  have l3 : w.heap.size < g3 := by omega
  have l4 : g3 < w1.heap.size := by omega
  clear hg3 hs1
  have hD0 : ArrAt w1 g3 (outC (sigL ls) 0) := hD.congr fun i _ => by simp [outC, zeroC]
  clear hD
  go_loopw [5, 6] (fun n i wr => ∃ k : Nat, k ≤ 256 ∧ i = .int .i64 k ∧ n = .int .i64 (cnt (sigL ls) k) ∧ ArrAt wr g3 (outC (sigL ls) k) ∧ Below g3 w1 wr ∧ g3 < wr.heap.size) (fun _ i _ => 256 - (intOf i).toNat)
  case atStart => exact ⟨0, by omega, rfl, rfl, hD0, Below.refl _ _, l4⟩
  case round =>
    obtain ⟨k, hk, rfl, rfl, hD, hb, hl⟩ := hrel
    obtain ⟨wo, rfl⟩ : ∃ wo : World, wo = wr := ⟨_, rfl⟩
    by_cases hlt : k < 256
    · have hfk := fi_le (sigL ls) k
      have hcn := cnt_le (sigL ls) k
      have bk : (k : Int) < 256 := by omega
      have hbo : Below w.heap.size w wo := bel1.trans (hb.mono (by omega))
      go_wp2
      go_loopw [7] (fun i wr2 => ∃ a : Nat, a ≤ fi (sigL ls) k ∧ i = .int .i64 a ∧ Below wo.heap.size wo wr2) (fun i _ => 256 - (intOf i).toNat)
      case atStart => exact ⟨0, by omega, rfl, Below.refl _ _⟩
      case round =>
        obtain ⟨x, hx, rfl, hb2⟩ := hrel
        have hrow := h.below (hbo.trans (hb2.mono hbo.size))
        have hal := fun w' hr => alike_any ls x k a len cap w' hr (by omega) hlt
        have HAL := Lib.hid hal
        clear hal
        by_cases hfi : x < fi (sigL ls) k
        · have hne : (ls.all fun S => S x == S k) = false := by
            rw [all_sig]; simpa using fi_first (sigL ls) k x hfi
          go_wp2_with (go_at_call 22; (with_reducible refine (HAL.out _ hrow).mono ?_); rintro e w3 ⟨rfl, hb3⟩)
          go_roundw
          case rel => exact ⟨x + 1, by omega, by go_num, hb2.trans (hb3.mono hb2.size)⟩
          case measure => simp [intOf]; omega
        · have hak : x = fi (sigL ls) k := by omega
          have heq : (ls.all fun S => S x == S k) = true := by
            rw [all_sig, hak]; simpa using fi_eq (sigL ls) k
          have Hak := Lib.hid hak
          clear hak
          go_wp2_with (go_at_call 22; (with_reducible refine (HAL.out _ hrow).mono ?_); rintro e w3 ⟨rfl, hb3⟩; have hb4 := hb2.trans (hb3.mono hb2.size); have hDq := hD.below hb4 hl; have hcell := hDq.cell k hlt; have hfr := hDq.frozen k; have hca := hDq.cell x (by omega); have HD := Lib.hid hDq; clear hDq)
          · have hak : x < k := by assumption
            have hlq : g3 < w3.heap.size := by have := hb4.size; omega
            have Hb := hb.trans (hb4.mono (by omega : g3 ≤ wo.heap.size))
            have hcl : outC (sigL ls) k x = cls (sigL ls) k := by
              rw [outC, if_pos hak, Hak.out]
              exact (cls_eq_iff _ _ _).2 (fi_eq _ _)
            have hnn : cnt (sigL ls) (k + 1) = cnt (sigL ls) k := by
              have : isNew (sigL ls) k = false := by
                unfold isNew; rw [← Hak.out, beq_eq_false_iff_ne]; omega
              simp [cnt, this]
            go_roundw
            case rel =>
              refine ⟨k + 1, by omega, by go_num, by rw [hnn], ((HD.out).set_ k _ hlt).congr (outC_next _ k _ hcl), Hb.setCell (Nat.le_refl _) _, ?_⟩
              simpa [World.setCell] using hlq
            case measure => simp [intOf]; omega
          · have hak : x = k := by
              have : ¬ x < k := by assumption
              omega
            have hlq : g3 < w3.heap.size := by have := hb4.size; omega
            have Hb := hb.trans (hb4.mono (by omega : g3 ≤ wo.heap.size))
            have hnew : isNew (sigL ls) k = true := by
              unfold isNew; rw [← Hak.out, beq_iff_eq]; exact hak
            have hcl : cnt (sigL ls) k = cls (sigL ls) k := (cls_new _ hnew).symm
            have hnn : cnt (sigL ls) (k + 1) = cnt (sigL ls) k + 1 := by simp [cnt, hnew]
            go_roundw
            case rel =>
              refine ⟨k + 1, by omega, by go_num, by rw [hnn]; go_num, ((HD.out).set_ k _ hlt).congr (outC_next _ k _ hcl), Hb.setCell (Nat.le_refl _) _, ?_⟩
              simpa [World.setCell] using hlq
            case measure => simp [intOf]; omega
    · have hk2 : k = 256 := by omega
      have Hk := Lib.hid hk2
      clear hk2
      have hC2 := C1.below hb l3
      go_wp2_with (first | (refine wpList_load_arr rfl _ rfl g3 (outC (sigL ls) k) rfl hD ?_) | (refine wpList_store_arr rfl _ _ rfl w.heap.size zeroC (outC (sigL ls) k) rfl rfl hC2 ?_; intro w9 hR hB9 hO9 hS9))
      have hR2 := hR
      rw [Hk.out] at hR2
      have hR3 : ArrAt w9 w.heap.size (clsL ls) := hR2.congr (outC_all (sigL ls))
      refine bodyPost_ret (results_arr_tmp rfl _ _ w.heap.size (clsL ls) _ rfl rfl hR3) rfl ⟨?_, ?_⟩
      · rw [← Hk.out]; rfl
      · exact (bel1.trans (hb.mono (by omega))).trans (hB9 _ (by omega))
end Go.Proofs.Ytglagipkpdbhcaa
