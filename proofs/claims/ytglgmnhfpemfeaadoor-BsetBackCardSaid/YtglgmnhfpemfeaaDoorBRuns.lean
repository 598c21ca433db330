/- bset: Runs. -/
import Derived.Test.YtglgmnhfpemfeaaDoorRunLaw
namespace Go.Proofs.YtglgmnhfpemfeaaDoor
open Go.RowKit
set_option linter.unusedVariables false

def rn2 (p : Nat × Nat) : List Value := [.int .i64 (p.1 : Int), .int .i64 (p.2 : Int)]
theorem rn2_len (p : Nat × Nat) : (rn2 p).length = 2 := rfl
theorem rn2_one (p : Nat × Nat) : ∀ u ∈ rn2 p, u.oneCell' = true := fun u hu => by
  simp [rn2] at hu
  rcases hu with rfl | rfl <;> rfl
theorem infoRun : (Tryd.prog.info? 32).map (fun i => (i.zero, i.size, i.bytes)) = some (some (.agg #[.int .i64 0, .int .i64 0]), 2, 16) := by kernel_rfl
theorem own_at {w : World} {base : Nat} {e : TypeId} {k n c : Nat} {A : Option Addr} {xs : List Value} (h : w.ownsRow base e k (.slice A n c) n xs) (hp : 0 < n) : ∃ g, A = some ⟨g, 0, none⟩ ∧ base ≤ g ∧ g < w.heap.size ∧ ∀ i u, xs[i]? = some u → w.cell? ⟨g, i, none⟩ = some u := by
  rcases h.2 with ⟨_, h0⟩ | ⟨g, cap, cur, hv, hb, _⟩
  · omega
  · injection hv with hA
    subst hA
    refine ⟨g, rfl, hb, (h.lt g rfl).2, fun i u hu => ?_⟩
    have := h.cells (g := g) rfl i u hu
    have e : (⟨g, 0, none⟩ : Addr).add i = ⟨g, i, none⟩ := by unfold Addr.add; split <;> simp_all
    rwa [e] at this
/-- One cell of an owned row written anew. -/
theorem own_set {w : World} {base : Nat} {e : TypeId} {k g n c : Nat} {xs : List Value} (h : w.ownsRow base e k (.slice (some ⟨g, 0, none⟩) n c) n xs) (j : Nat) (u : Value) :
    (w.setCell ⟨g, j, none⟩ u).ownsRow base e k (.slice (some ⟨g, 0, none⟩) n c) n (xs.set j u) ∧ w.frozen? ⟨g, j, none⟩ = false := by
  rcases h.2 with ⟨h1, _⟩ | ⟨g', cap, cur, hv, hb, hg, r1, r2, r3, r4⟩
  · cases h1
  · injection hv with h1 h2 h3
    have h1 := Option.some.inj h1
    injection h1 with h1
    subst h1 h3
    refine ⟨⟨by rw [List.length_set]; exact h.1, .inr ⟨g, c, _, rfl, hb, heap_setCell_same w g j _ _ u hg, r1, r2, by simpa using r3, ?_⟩⟩, frozen_of_row w g j _ _ hg⟩
    rw [← r4, Array.toList_setIfInBounds, List.take_set]
theorem set_last (l0 : List (Nat × Nat)) (a e f : Nat) : ((l0 ++ [(a, e)]).flatMap rn2).set (l0.length * 2 + 1) (.int .i64 (f : Int)) = (l0 ++ [(a, f)]).flatMap rn2 := by
  have hl : (l0.flatMap rn2).length = l0.length * 2 := by
    induction l0 with
    | nil => rfl
    | cons x l ih => rw [List.flatMap_cons, List.length_append, ih, rn2_len, List.length_cons]; omega
  rw [List.flatMap_append, List.flatMap_append, List.set_append_right _ _ (by omega), hl]
  simp [rn2]
theorem last_cell (l0 : List (Nat × Nat)) (a e : Nat) : ((l0 ++ [(a, e)]).flatMap rn2)[l0.length * 2 + 1]? = some (.int .i64 (e : Int)) :=
  flat_get rn2_len (l0 ++ [(a, e)]) l0.length (a, e) (by simp) 1 _ rfl
theorem by1_flat (L : List Nat) : L.flatMap by1 = L.map fun (n : Nat) => Value.int .u8 (n : Int) := by
  induction L with
  | nil => rfl
  | cons x l ih => rw [List.flatMap_cons, ih]; rfl
theorem bytesL_at {S : Nat → Bool} {n i b : Nat} (h : (bytesL S n)[i]? = some b) : b < n ∧ S b = true := by
  have := List.mem_of_getElem? h
  unfold bytesL at this
  rw [List.mem_filter, List.mem_range] at this
  exact this
theorem run_end {S : Nat → Bool} {k : Nat} {l0 : List (Nat × Nat)} {a e : Nat} (h : runsF ((bytesL S 256).take k) = l0 ++ [(a, e)]) : e < 256 := by
  have key : ∀ (n : Nat) (L : List Nat), L.length = n → (∀ b ∈ L, b < 256) → ∀ p ∈ runsF L, p.2 < 256 := by
    intro n
    induction n with
    | zero =>
      intro L hn _ p hp
      have : L = [] := List.length_eq_zero_iff.1 hn
      subst this; simp [runsF] at hp
    | succ n ih =>
      intro L hn hL p hp
      rcases nil_or_snoc L with h | ⟨L, b, h⟩
      · subst h; simp at hn
      subst h
      have ih := ih L (by simpa using hn) (fun b hb => hL b (by simp [hb]))
      have hb := hL b (by simp)
      rw [runsF_snoc] at hp
      rcases nil_or_snoc (runsF L) with h | ⟨l0, ⟨a, e⟩, h⟩
      · rw [h, rstep_nil] at hp; simp at hp; subst hp; exact hb
      · rw [h] at hp ih
        by_cases he : e + 1 = b
        · subst he
          rw [rstep_more] at hp
          rcases List.mem_append.1 hp with hp | hp
          · exact ih p (by simp [hp])
          · simp at hp; subst hp; exact hb
        · rw [rstep_new _ _ _ _ he] at hp
          rcases List.mem_append.1 hp with hp | hp
          · exact ih p hp
          · simp at hp; subst hp; exact hb
  exact key _ ((bytesL S 256).take k) rfl (fun b hb => by
    have := List.mem_of_mem_take hb
    unfold bytesL at this
    rw [List.mem_filter, List.mem_range] at this
    exact this.1) (a, e) (by rw [h]; simp)
set_option maxHeartbeats 2000000 in
theorem runs_any (S : Nat → Bool) (w : World) (hT : TabT w) :
    Calls Tryd.prog 13 #[setV S] w fun e w' => ∃ v, e = .returned v ∧ w'.ownsRow w.heap.size 32 2 v (runsF (bytesL S 256)).length ((runsF (bytesL S 256)).flatMap rn2) ∧ Below w.heap.size w w' := by
  have hb0 := ((Below.refl w.heap.size w).alloc (Nat.le_refl w.heap.size) (.cells #[.int .u64 (wd S 0), .int .u64 (wd S 1), .int .u64 (wd S 2), .int .u64 (wd S 3)] 24))
  have HBY := Lib.hid (bytes_any S _ (hT.below hb0))
  have HB0 := Lib.hid hb0
  have hlen := bytesL_len S 256
  unfold setV at HBY
  unfold setV
  clear hb0
  go_enter Tryd.func13, Tryd.ntmps13
  go_wp2_with fail
  refine HBY.out.mono ?_
  rintro e w2 ⟨v8, rfl, hown, hb2⟩
  obtain ⟨A8, c8, rfl, _, _⟩ := own_form hown
  have HB2 := Lib.hid (HB0.out.trans (hb2.mono (by simp)))
  have HOB := Lib.hid hown
  obtain ⟨L, hL⟩ : ∃ L, bytesL S 256 = L := ⟨_, rfl⟩
  have HL := Lib.hid hL
  rw [hL] at HOB hlen
  obtain ⟨m, hm⟩ : ∃ m, L.length = m := ⟨_, rfl⟩
  have HM := Lib.hid hm
  rw [hL, hm]
  rw [hm] at HOB hlen
  obtain ⟨g, hg⟩ : ∃ g, w2.heap.size = g := ⟨_, rfl⟩
  have HG := Lib.hid hg
  have HGE : Hid (w.heap.size ≤ g) := Lib.hid (by rw [← hg]; exact HB2.out.size)
  have HBR : Hid (Below g w2 w2) := Lib.hid (by rw [← hg]; exact Below.refl _ _)
  clear hown hb2 hL hm hg HBY
  go_wp2
  go_loopw [3, 10] (fun v i wr => ∃ k : Nat, k ≤ m ∧ i = .int .i64 k ∧ wr.ownsRow g 32 2 v (runsF (L.take k)).length ((runsF (L.take k)).flatMap rn2) ∧ Below g w2 wr) (fun _ i _ => m - (intOf i).toNat)
  case atStart => exact ⟨0, by omega, rfl, own_new _ _ _ _, HBR.out⟩
  case round =>
    obtain ⟨k, hk, rfl, hown, hb⟩ := hrel
    have HO := Lib.hid hown
    have HB := Lib.hid hb
    have hgl : g ≤ wr.heap.size := by have := HG.out; have := hb.size; omega
    clear hown hb HBR
    by_cases hlt : k < m
    · obtain ⟨b, hbk⟩ : ∃ b, L[k]? = some b := ⟨_, List.getElem?_eq_getElem (by have := HM.out; omega)⟩
      obtain ⟨g8, rfl, hg8, hg8s, hc8⟩ := own_at HOB.out (by omega)
      have c : wr.cell? ⟨g8, k, none⟩ = some (.int .u8 (b : Int)) := (HB.out.cell (p := ⟨g8, k, none⟩) (by have := HG.out; show g8 < g; omega)).trans (hc8 k _ (by rw [by1_flat, List.getElem?_map, hbk]; rfl))
      have HST := Lib.hid (runs_take hbk)
      have hb256 : b < 256 := (bytesL_at (S := S) (by rw [HL.out]; exact hbk)).1
      have hrl := runs_len L k
      have hp0 : (0 : Int) ≤ (k : Int) := by omega
      have hp1 : (k : Int) < (m : Int) := by omega
      clear hbk hc8
      rcases nil_or_snoc (runsF (L.take k)) with hr | ⟨l0, ⟨a, e⟩, hr⟩
      · rw [hr] at HO HST
        rw [rstep_nil] at HST
        obtain ⟨A3, c3, hv3, _, _⟩ := own_form HO.out
        subst hv3
        have HAP := Lib.hid (app_el (P := Tryd.prog) (C := rn2) (T := 29) (by decide) rn2_len rn2_one Tryd.underlying29 infoRun rfl (n := 0) HO.out (b, b) (by unfold maxLen; omega) (by omega) hgl wr.heap.size rfl #[.int .i64 (b : Int), .int .i64 (b : Int)] rfl)
        have e0 : ([] : List (Nat × Nat)).length = 0 := rfl
        rw [e0]
        clear hr
        go_wp2_with (at_builtin; refine HAP.out _ _ _ _ _ rfl _ _ rfl rfl rfl ?_; intro gg cap w6 hown1 hgrow hat; have HW := Lib.hid hown1; have HBW := Lib.hid (below_grown (HB.out.alloc hgl (.cells #[.int .i64 (b : Int), .int .i64 (b : Int)] 32)) (by simp; omega) hgrow (fun j hj => (own_ge HO.out hj).1)); clear hown1 hgrow hat)
        go_roundw
        case rel => exact ⟨k + 1, by omega, by go_num, by rw [HST.out]; exact HW.out, HBW.out⟩
        case measure => simp [intOf]; omega
      · have he256 : e < 256 := run_end (S := S) (k := k) (by rw [HL.out]; exact hr)
        rw [hr] at HO HST hrl
        have hq : (l0 ++ [(a, e)]).length = l0.length + 1 := by simp
        rw [hq] at HO hrl
        obtain ⟨m0, hm0⟩ : ∃ m0, l0.length = m0 := ⟨_, rfl⟩
        have HM0 := Lib.hid hm0
        have HLC := Lib.hid (last_cell l0 a e)
        rw [hm0] at HO HLC hrl
        obtain ⟨q, hq2⟩ : ∃ q, m0 + 1 = q := ⟨_, rfl⟩
        have HQ2 := Lib.hid hq2
        rw [hq2] at HO hrl
        obtain ⟨A3, c3, hv3, _, _⟩ := own_form HO.out
        subst hv3
        obtain ⟨g3, rfl, hg3, hg3s, hc3⟩ := own_at HO.out (by omega)
        have d : wr.cell? ⟨g3, m0 * 2 + 1, none⟩ = some (.int .i64 (e : Int)) := hc3 _ _ HLC.out
        have hqm : (q : Int) - 1 = (m0 : Int) := by omega
        have hq0 : decide ((0 : Int) < (q : Int)) = true := decide_eq_true (by omega)
        have hp2 : (0 : Int) ≤ (m0 : Int) := by omega
        have hp3 : (m0 : Int) < (q : Int) := by omega
        have fz := (own_set HO.out (m0 * 2 + 1) (.int .i64 0)).2
        clear hc3 hm0 hq hr hq2
        by_cases he : e + 1 = b
        · have hj : ((e : Int) + 1 == (b : Int)) = true := by simp; omega
          have HSET := Lib.hid (own_set HO.out (m0 * 2 + 1) (.int .i64 (b : Int))).1
          have he1 : (e : Int) + 1 = (b : Int) := by omega
          have HSTL := Lib.hid (set_last l0 a e b)
          rw [HM0.out] at HSTL
          rw [HSTL.out] at HSET
          have HST2 : Hid (runsF (L.take (k + 1)) = l0 ++ [(a, b)]) := Lib.hid (by rw [HST.out, ← he, rstep_more])
          clear he hj
          go_wp2
          go_region
          go_wp2
          go_roundw
          case rel => exact ⟨k + 1, by omega, by go_num, by rw [HST2.out, List.length_append]; rw [show l0.length + [(a, b)].length = q by have := HM0.out; have := HQ2.out; simp; omega]; exact HSET.out, (HB.out.setCell (p := ⟨g3, m0 * 2 + 1, none⟩) hg3 _).drew⟩
          case measure => simp [intOf]; omega
        · have hj : ((e : Int) + 1 == (b : Int)) = false := by simp; omega
          have HST2 : Hid (runsF (L.take (k + 1)) = l0 ++ [(a, e)] ++ [(b, b)]) := Lib.hid (by rw [HST.out, rstep_new _ _ _ _ he])
          have HAP := Lib.hid (app_el (P := Tryd.prog) (C := rn2) (T := 29) (by decide) rn2_len rn2_one Tryd.underlying29 infoRun rfl HO.out (b, b) (by unfold maxLen; omega) (by omega) hgl wr.heap.size rfl #[.int .i64 (b : Int), .int .i64 (b : Int)] rfl)
          clear he
          go_wp2_with (at_builtin; refine HAP.out _ _ _ _ _ rfl _ _ rfl rfl rfl ?_; intro gg cap w6 hown1 hgrow hat; have HW := Lib.hid hown1; have HBW := Lib.hid (below_grown (HB.out.alloc hgl (.cells #[.int .i64 (b : Int), .int .i64 (b : Int)] 32)) (by simp; omega) hgrow (fun j hj => (own_ge HO.out hj).1)); clear hown1 hgrow hat)
          go_roundw
          case rel => exact ⟨k + 1, by omega, by go_num, by rw [HST2.out, List.length_append]; rw [show (l0 ++ [(a, e)]).length + [(b, b)].length = q + 1 by have := HM0.out; have := HQ2.out; simp; omega]; exact HW.out, HBW.out⟩
          case measure => simp [intOf]; omega
    · have HK : Hid (L.take k = L) := by show _ = _; exact List.take_of_length_le (by rw [HM.out]; omega)
      rw [HK.out] at HO
      go_wp2
      go_ret
      exact ⟨_, rfl, by rw [HL.out]; exact own_mono HO.out HGE.out, HB2.out.trans (HB.out.mono HGE.out)⟩
end Go.Proofs.YtglgmnhfpemfeaaDoor
