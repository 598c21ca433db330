import Derived.Test.YtglagipkpdbhcaaSplit
import Derived.Test.YtglagipkpdbhcaaAlike
import Derived.Deep.RegionLaw
namespace Go.Proofs.Ytglagipkpdbhcaa
open Go.RowKit Go.Sort

/-- A byte's side of each set. -/
def sigL (l : List (Nat → Bool)) : Nat → List Bool := fun b => l.map fun S => S b
/-- The classes of a list of sets. -/
def clsL (l : List (Nat → Bool)) : Nat → Nat := cls (sigL l)
theorem clsL_nil (b : Nat) : clsL [] b = 0 := by
  have : fi (sigL []) b = 0 := fi_unique _ rfl (fun x hx => absurd hx (by omega))
  unfold clsL cls; rw [this]; rfl
theorem clsL_snoc (l : List (Nat → Bool)) (S : Nat → Bool) (b : Nat) (hb : b < 256) : cls (pairC (clsL l) S) b = clsL (l ++ [S]) b := by
  unfold clsL
  refine cls_congr (N := 256) (fun x y _ _ => ?_) hb
  have h := cls_eq_iff (sigL l) x y
  constructor
  · intro e
    simp only [pairC, Prod.mk.injEq] at e
    have h2 := h.1 e.1
    simp only [sigL] at h2 ⊢
    rw [List.map_append, List.map_append, h2]
    simp [e.2]
  · intro e
    simp only [sigL, List.map_append, List.map_cons, List.map_nil] at e
    have h2 := List.append_inj' e rfl
    simp only [pairC, Prod.mk.injEq]
    exact ⟨h.2 h2.1, by simpa using h2.2⟩
theorem clsL_lt (l : List (Nat → Bool)) (i : Nat) (h : i < 256) : clsL l i < 256 := by have := cls_le_self (sigL l) i; unfold clsL; omega

attribute [local go_sem ↓] loadA_eq storeA_eq
set_option maxHeartbeats 1000000 in
set_option maxRecDepth 100000 in
theorem of_any (ls : List (Nat → Bool)) (a : Option Addr) (len cap : Nat) (w : World) (h : SRow w a len ls) :
    Calls Try.prog 10 #[.slice a len cap] w fun e w' => e = .returned (.tuple #[.agg (arrC (clsL ls)), .int .i64 (widthC (clsL ls) 256)]) ∧ Below w.heap.size w w' := by
  have hal := run_zero_arr
  have hl1 := h.1
  have hl2 := h.2.1
  have Hl := Lib.hid hl1
  clear hl1
  have a1 := (ArrAt.new w zeroC).alloc (.cells (arrC zeroC) 24)
  have b1 : ArrAt ((w.alloc (.cells (arrC zeroC) 24)).alloc (.cells (arrC zeroC) 24)) (w.heap.size + 1) zeroC := BlkAt.new _ _ _ (by simp)
  have A1 := Lib.hid a1
  have B1 := Lib.hid b1
  clear a1 b1
  go_enter Try.func10, Try.ntmps10
  go_wp2
  go_loopw [9] (fun i wr => ∃ k : Nat, k ≤ len ∧ i = .int .i64 k ∧ ArrAt wr w.heap.size zeroC ∧ ArrAt wr (w.heap.size + 1) (clsL (ls.take k)) ∧ Below w.heap.size w wr ∧ w.heap.size + 1 < wr.heap.size) (fun i _ => len - (intOf i).toNat)
  case atStart =>
    refine ⟨0, by omega, rfl, A1.out, B1.out.congr fun i _ => (clsL_nil i).symm, ((Below.refl _ _).alloc (Nat.le_refl _) _).alloc (by simp) _, by simp⟩
  case round =>
    obtain ⟨k, hk, rfl, hA, hB, hb, hl⟩ := hrel
    by_cases hlt : k < len
    · obtain ⟨b, off, S, rfl, hbl, hS, c0, c1, c2, c3⟩ := (h.below hb).at_ hlt
      have hsp := fun w' => split_any (clsL (ls.take k)) S w'
      unfold setV at hsp
      have HSP := Lib.hid hsp
      have HS := Lib.hid hS
      have HC : Hid (ls.take (k + 1) = ls.take k ++ [S]) := by show _ = _; rw [List.take_add_one, HS.out]; rfl
      clear hsp hS
      go_wp2_with (first
        | ((with_reducible refine wpList_load_arr rfl _ rfl (w.heap.size + 1) (clsL (ls.take k)) ?_ (hB.alloc _) ?_); rfl)
        | (go_at_call 8; (with_reducible refine (HSP.out _).mono ?_); rintro e w1 ⟨rfl, hb1⟩; have hz1 := hb1.size; have hB1 := (hB.alloc (setO S)).below hb1 (by simp; omega); have hA1 := (hA.alloc (setO S)).below hb1 (by simp; omega); have hbb := (hb.alloc hb.size (setO S)).trans (hb1.mono (by simp; omega)))
        | ((with_reducible refine wpList_store_arr rfl _ _ rfl (w.heap.size + 1) (clsL (ls.take k)) (cls (pairC (clsL (ls.take k)) S)) ?_ ?_ hB1 ?_); rfl; rfl; intro w2 hB2 hBe hO2 hS2; have HO2 := Lib.hid hO2; have HBe := Lib.hid hBe; clear hO2 hBe))
      go_roundw
      case rel =>
        refine ⟨k + 1, by omega, by go_num, (HO2.out _ (by omega)).trans hA1, ?_, hbb.trans (HBe.out _ (by omega)), ?_⟩
        · rw [HC.out]; exact hB2.congr fun i hi => clsL_snoc _ S i hi
        · have := hz1; simp at this; omega
      case measure => simp [intOf]; omega
    · have Hk : Hid (ls.take k = ls) := by
        show _ = _
        exact List.take_of_length_le (by rw [Hl.out]; omega)
      rw [Hk.out] at hB
      have hwd := Lib.hid fun w' => width_any (clsL ls) (clsL_lt ls) w'
      have hld := run_loadA wr.drew _ _ (show ArrAt wr.drew _ _ from hB)
      have HB := Lib.hid hB
      have HA := Lib.hid hA
      have HL := Lib.hid hl
      clear hB hA
      go_wp2
      go_region_with (first | (go_at_call 9; (with_reducible refine (hwd.out _).mono ?_); rintro e w1 ⟨rfl, hb1⟩; have HB1 := Lib.hid (HB.out.below ((Below.refl _ wr).drew.trans hb1) HL.out); have HA1 := Lib.hid (HA.out.below ((Below.refl _ wr).drew.trans hb1) (Nat.lt_of_succ_lt HL.out)); have hld1 := run_loadA w1 _ _ HB1.out; have hst1 := run_storeA w1 _ _ (clsL ls) HA1.out))
      all_goals go_wp2
      all_goals
        refine bodyPost_ret (results_arr_tmp rfl _ _ w.heap.size (clsL ls) _ rfl rfl HA1.out.row) rfl ⟨rfl, ?_⟩
        exact below_setRow' (hb.trans (((Below.refl _ wr).drew.trans hb1).mono hb.size)) (Nat.le_refl _) _
end Go.Proofs.Ytglagipkpdbhcaa
