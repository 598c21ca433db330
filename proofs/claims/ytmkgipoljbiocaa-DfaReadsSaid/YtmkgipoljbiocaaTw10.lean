/- Several texts in one: TokenW, DBuild, DfaG, KnowD, SameM. -/
import Derived.Test.YtmkgipoljbiocaaTw9
import Derived.Test.YtmkgipoljbiocaaTw5
import Derived.Test.YtmkgipoljbiocaaTw8
import Derived.Test.YtmkgipoljbiocaaTw2
import Derived.Deep.CutRange
import Derived.Test.YtmkgipoljbiocaaTw3
import Derived.Test.YtmkgipoljbiocaaTw1
/- The token that is read at some spots: the program's. -/
namespace Go.Proofs.Ytmkgipoljbiocaa
open Go.RowKit
set_option linter.unusedVariables false
set_option linter.unusedSimpArgs false

theorem tok_range {N : NetS} (h : netR N = true) {j : Nat} {z : Int} (hz : N.of[j]? = some z) : 0 ≤ z := by
  have hl := netR_len h
  unfold netR at h
  simp only [Bool.and_eq_true, List.all_eq_true, List.mem_range] at h
  have := h.2.2 j (by have := (List.getElem?_eq_some_iff.1 hz).1; omega)
  unfold rowOk nonneg at this
  rw [hz] at this
  simp only [Bool.and_eq_true, decide_eq_true_eq] at this
  exact this.1
set_option maxRecDepth 10000 in
set_option maxHeartbeats 4000000 in
theorem ftoken_any (w : World) (v : Nv) (N : NetS) (a : Option Addr) (n c : Nat) (xs : List Int) (hv : NetAt w v N) (h : CRow intC 1 w a n xs) :
    Calls Try.prog 32 #[.agg (netA v), .slice a n c] w fun e w' => e = .returned (.int .i64 (tokenL N xs)) ∧ Below w.heap.size w w' := by
  have HV := Lib.hid hv
  have HH := Lib.hid h
  have HL := Lib.hid h.1
  have hnm := h.2.1
  have HSN := Lib.hid hv.s.1
  have HON := Lib.hid hv.o.1
  have HLN := Lib.hid hv.l.1
  have hom := hv.o.2.1
  have hlm := hv.l.2.1
  obtain ⟨r, hr⟩ : ∃ r, tokenL N xs = r := ⟨_, rfl⟩
  have HR := Lib.hid hr
  rw [hr]
  obtain ⟨g, hg⟩ : ∃ g, w.heap.size = g := ⟨_, rfl⟩
  have HG := Lib.hid hg
  obtain ⟨W1, hW1, hs1, hb1, hx1⟩ := box_net hg v
  have HRM := Lib.hid (fnet_any W1 v N (hv.below (by rw [hg]; exact hb1)))
  obtain ⟨q, hq⟩ : ∃ q, netR N = q := ⟨_, rfl⟩
  rw [hq] at HRM
  have HQ := Lib.hid hq
  have HW1 := Lib.hid hW1
  have HB1 := Lib.hid hb1
  have HS1 := Lib.hid hs1
  have HX1 := Lib.hid hx1
  rw [hW1] at HRM
  clear hv h hb1 hs1 hq hr
  rw [hW1] at hx1
  clear hW1
  obtain ⟨cc0, cc1, cc2, cc3, cc4⟩ := netC (g := g) (v := v) hx1
  clear hx1
  go_enter Try.func32, Try.ntmps32
  go_wp2_with fail
  refine HRM.out.mono ?_
  rintro e w2 ⟨rfl, hb2⟩
  have hb2' : Below W1.heap.size W1 w2 := by rw [← HW1.out] at hb2; exact hb2
  have HB2 : Hid (Below g w w2) := Lib.hid (HB1.out.trans (hb2'.mono (by have := HS1.out; omega)))
  have HX2 := Lib.hid ((hb2'.block g (by have := HS1.out; omega)).trans HX1.out)
  have hgl : g + 1 ≤ w2.heap.size := by have := hb2'.size; have := HS1.out; omega
  clear hb2 hb2' cc0 cc1 cc2 cc3 cc4
  cases q with
  | false =>
    have HE : Hid (r = -1) := Lib.hid (by rw [← HR.out]; unfold tokenL; rw [HQ.out]; rfl)
    go_wp2
    go_ret
    rw [HE.out]
    exact ⟨rfl, by first | exact HB2.out | (rw [HG.out]; exact HB2.out)⟩
  | true =>
    have HLE := Lib.hid (netR_len HQ.out)
    have HE : Hid (xs.foldl (tokZ N) (-1) = r) := Lib.hid (by rw [← HR.out]; unfold tokenL; rw [if_pos HQ.out])
    have hbb : Below w.heap.size w w2 := by rw [HG.out]; exact HB2.out
    have HV2 := Lib.hid (HV.out.below hbb)
    have HH2 := Lib.hid (HH.out.below hbb)
    clear hbb
    obtain ⟨n0, n1, n2, n3, n4⟩ := netC (W := w2) (g := g) (v := v) HX2.out
    go_wp2
    go_loopw [5, 14] (fun tv i wr => ∃ (k : Nat) (t : Int), k ≤ n ∧ i = .int .i64 (k : Int) ∧ tv = .int .i64 t ∧ (xs.take k).foldl (tokZ N) (-1) = t ∧ wr = w2) (fun _ i _ => n - (intOf i).toNat)
    case atStart => exact ⟨0, -1, by omega, rfl, rfl, rfl, rfl⟩
    case round =>
      obtain ⟨k, t, hk, rfl, rfl, ht, hwr⟩ := hrel
      have HT := Lib.hid ht
      subst hwr
      clear ht
      by_cases hlt : k < n
      case neg =>
        have HF : Hid (r = t) := Lib.hid (by rw [← HE.out, ← HT.out, List.take_of_length_le (by rw [HL.out]; omega)])
        have z1 : ¬ (k : Int) < (n : Int) := by omega
        go_wp2
        go_ret
        exact ⟨ret_int HF.out.symm, by first | exact HB2.out | (rw [HG.out]; exact HB2.out)⟩
      case pos =>
        obtain ⟨b1, off1, z, rfl, hb1', hz, c0⟩ := HH2.out.int hlt
        have y0 : (0 : Int) ≤ (k : Int) := by omega
        have y1 : (k : Int) < (n : Int) := by omega
        have HST : Hid ((xs.take (k + 1)).foldl (tokZ N) (-1) = tokZ N t z) := Lib.hid (by rw [foldl_take hz, HT.out])
        have hsl := HSN.out
        have hol := HON.out
        have hll := HLN.out
        have hle := HLE.out
        clear hz
        by_cases hin : 0 ≤ z ∧ z < (v.on : Int)
        case neg =>
          have HN : Hid (tokZ N t z = t) := Lib.hid (by unfold tokZ; rw [if_neg (by omega)])
          by_cases hz0 : z < 0
          case pos =>
            clear hin hsl hol hll hle
            go_wp2
            go_roundw
            case rel => exact ⟨k + 1, t, by omega, by go_num, rfl, by rw [HST.out, HN.out], by first | rfl | trivial⟩
            case measure => simp [intOf]; omega
          case neg =>
            have z2 : (v.on : Int) ≤ z := by omega
            clear hin hsl hol hll hle
            go_wp2
            go_roundw
            case rel => exact ⟨k + 1, t, by omega, by go_num, rfl, by rw [HST.out, HN.out], by first | rfl | trivial⟩
            case measure => simp [intOf]; omega
        case pos =>
          obtain ⟨hz0, hz1⟩ := hin
          obtain ⟨j, rfl⟩ : ∃ j : Nat, z = (j : Int) := ⟨z.toNat, by omega⟩
          obtain ⟨b2, off2, lb, hle2, hb2, hlb, c1⟩ := HV2.out.l.bool (k := j) (by omega)
          obtain ⟨b3, off3, o, hoe, hb3, ho, c2⟩ := HV2.out.o.int (k := j) (by omega)
          have ho0 := tok_range HQ.out ho
          rw [hle2] at n2
          rw [hoe] at n1
          have z2 : ¬ (j : Int) < 0 := by omega
          have z3 : ¬ (v.on : Int) ≤ (j : Int) := by omega
          have z4 : (j : Int) < (v.ln : Int) := by omega
          have z5 : (0 : Int) ≤ (j : Int) := by omega
          have HTZ : Hid (tokZ N t (j : Int) = if lb = true ∧ (t < 0 ∨ o < t) then o else t) := Lib.hid (by
            unfold tokZ
            rw [Int.toNat_natCast, hlb, ho]
            simp only [Option.some.injEq, Option.getD_some]
            by_cases h9 : lb = true ∧ (t < 0 ∨ o < t)
            · rw [if_pos h9, if_pos ⟨by omega, by omega, h9.1, h9.2⟩]
            · rw [if_neg h9, if_neg (fun h => h9 ⟨h.2.2.1, h.2.2.2⟩)])
          clear hsl hol hll hle hlb ho hle2 hoe
          cases lb with
          | false =>
            have HN : Hid (tokZ N t (j : Int) = t) := Lib.hid (by rw [HTZ.out, if_neg (by simp)])
            go_wp2
            go_roundw
            case rel => exact ⟨k + 1, t, by omega, by go_num, rfl, by rw [HST.out, HN.out], by first | rfl | trivial⟩
            case measure => simp [intOf]; omega
          | true =>
            by_cases ht0 : t < 0
            case pos =>
              have HN : Hid (tokZ N t (j : Int) = o) := Lib.hid (by rw [HTZ.out, if_pos ⟨rfl, .inl ht0⟩])
              have z6 : ¬ o < o := by omega
              go_wp2
              go_roundw
              case rel => exact ⟨k + 1, o, by omega, by go_num, by first | rfl | simp, by rw [HST.out, HN.out], by first | rfl | trivial⟩
              case measure => simp [intOf]; omega
            case neg =>
              by_cases hot : o < t
              case pos =>
                have HN : Hid (tokZ N t (j : Int) = o) := Lib.hid (by rw [HTZ.out, if_pos ⟨rfl, .inr hot⟩])
                go_wp2
                go_roundw
                case rel => exact ⟨k + 1, o, by omega, by go_num, by first | rfl | simp [hot], by rw [HST.out, HN.out], by first | rfl | trivial⟩
                case measure => simp [intOf]; omega
              case neg =>
                have HN : Hid (tokZ N t (j : Int) = t) := Lib.hid (by rw [HTZ.out, if_neg (by omega)])
                go_wp2
                go_roundw
                case rel => exact ⟨k + 1, t, by omega, by go_num, by first | rfl | simp [hot], by rw [HST.out, HN.out], by first | rfl | trivial⟩
                case measure => simp [intOf]; omega
end Go.Proofs.Ytmkgipoljbiocaa
/- The table of a net: the program's Build. -/
namespace Go.Proofs.Ytmkgipoljbiocaa
open Go.RowKit
set_option linter.unusedVariables false
set_option linter.unusedSimpArgs false

theorem withL_num {N : NetS} {l : List Int} {b : Nat} {z : Int} (hz : z ∈ withL N l b) : 0 ≤ z ∧ z < (N.sets.length : Int) := by
  unfold withL withUp at hz
  obtain ⟨i, hi, rfl⟩ := List.mem_map.1 hz
  have := List.mem_range.1 (List.mem_filter.1 hi).1
  omega
theorem toL_num {N : NetS} (hN : N.sets.length ≤ 1000) {x : List Int} {i c : Nat} : ∀ z ∈ toL N x i c, 0 ≤ z ∧ z < 9223372036854775808 := by
  intro z hz
  unfold toL startL stepL at hz
  split at hz <;> split at hz
  · have := withL_num hz; omega
  · cases hz
  · have := withL_num hz; omega
  · cases hz
theorem pad_at (k : Nat) (hk : 0 < k) : ∀ (r : List Int), ((r ++ List.replicate k (0 : Int)).flatMap intC)[r.length]? = some (.int .i64 0) := by
  intro r
  induction r with
  | nil => obtain ⟨j, rfl⟩ : ∃ j, k = j + 1 := ⟨k - 1, by omega⟩; rfl
  | cons x r ih => exact ih
theorem PB.cell_c {B X XA XM mb : Nat} {w : World} {D : Df} {fv : Value} {os nx : List (Sl Int)} {lb : List Int} {gr wid k : Nat} {r : List Int} {rest : List RowD} (h : PB B X XA XM mb w D fv os nx lb (.slice (some ⟨gr, 0, none⟩) wid wid) (r ++ List.replicate k 0) rest) (hk : 0 < k) :
    w.cell? ⟨gr, r.length, none⟩ = some (.int .i64 0) ∧ w.frozen? ⟨gr, r.length, none⟩ = false := by
  have h0 := h.db.own.2.2.2
  have hn := own_n h0
  rw [← hn] at h0
  refine ⟨(h0.cellAt r.length ?_).trans (pad_at k hk r), h0.frozenAt _⟩
  rw [hn, List.length_append, List.length_replicate]; omega
theorem rep_cells (n : Nat) : (madeCells (Value.int .i64 0).cells (n * 1)).toList = (List.replicate n (0 : Int)).flatMap intC := by
  show (madeCells #[Value.int .i64 0] (n * 1)).toList = _
  rw [toList_madeCells_one, Nat.mul_one]
  induction n with
  | zero => rfl
  | succ n ih => rw [List.replicate_succ, ih, List.replicate_succ]; rfl
theorem wp_load_dfa {o : Oper} {a : Act} {w : World} {K : Act → World → Prop} {Q : Exit → Act → World → Prop} {x : Operand} (ho : o.op = .load 32 x) (g : Nat) (D : Df) (hx : a.eval x = .pointer (some ⟨g, 0, none⟩)) (hg : DfaAt w g D) (h : K (a.put o.dst (.agg (dfA D))) w) : o.wp Try.prog a w K Q :=
  wp_load_row 32 x ho g hx 32 (dfA D) (0, 0) _ hg Try.underlying32 rfl (sizeDfa D) h
theorem wp_store_dfa {o : Oper} {a : Act} {w : World} {K : Act → World → Prop} {Q : Exit → Act → World → Prop} {x y : Operand} (ho : o.op = .store 32 x y) (g : Nat) (D D' : Df) (hx : a.eval x = .pointer (some ⟨g, 0, none⟩)) (hy : a.eval y = .agg (dfA D')) (hg : DfaAt w g D)
    (h : ∀ w', DfaAt w' g D' → (∀ B, B ≤ g → Below B w w') → (∀ k, k ≠ g → w'.heap[k]? = w.heap[k]?) → w'.heap.size = w.heap.size → K (a.put o.dst undef) w') : o.wp Try.prog a w K Q := by
  refine wp_store_row 32 x y ho g (dfA D') hx hy 32 (dfA D) hg (sizeDfa D') (by rw [dfA_size, dfA_size]) (dfA_one D') ?_
  exact h _ (setRow_heap w g _ _ _ _ hg) (fun B hB => below_setRow' (Below.refl _ _) hB _) (fun k hk => setRow_other w g k _ hk) (by simp)

attribute [local go_sem ↓] loadA_eq storeA_eq loadD_eq
set_option maxRecDepth 100000 in
set_option maxHeartbeats 8000000 in
theorem dbuild_if (w : World) (v : Nv) (N : NetS) (most : Int) (hv : NetAt w v N) (hfc : FCap w v.fa v.fn) (hsz : netR N = true → v.sn ≤ 1000 ∧ v.rn ≤ 100000) :
    Calls Try.prog 9 #[.agg (netA v), .int .i64 most] w fun e w' => ∃ D, e = .returned (.tuple #[.agg (dfA D), .int .i64 (buildR N most).2.1, .int .i64 (buildR N most).2.2]) ∧ MAt w' D (buildR N most).1 ∧ Below w.heap.size w w' := by
  have hmm := @run_makeMap Try.prog
  have hmf : ∀ (fn : Fn) (first cap : Array Value) (w : World), (Instr.makeFunc fn first cap).run Try.prog w = .ok (.func fn first cap) w := fun _ _ _ _ => rfl
  have HV := Lib.hid hv
  have HFC := Lib.hid hfc
  have HLS := Lib.hid hv.s.1
  have HSZ := Lib.hid hsz
  obtain ⟨g, hg⟩ : ∃ g, w.heap.size = g := ⟨_, rfl⟩
  have HG := Lib.hid hg
  obtain ⟨W1, hW1⟩ : ∃ W, W = (w.alloc (.cells (netA v) 27)).alloc (.cells Try.zeroCells32 32) := ⟨_, rfl⟩
  have hs1 : W1.heap.size = g + 2 := by rw [hW1]; simp [hg]
  have hb1 : Below g w W1 := by rw [hW1, ← hg]; exact ((Below.refl _ _).alloc (Nat.le_refl _) _).alloc (by simp) _
  have hbx : W1.heap[g]? = some (.cells (netA v) 27 (0, 0)) := by rw [hW1, ← hg]; exact (Below.heap_alloc _ _ _ (by simp)).trans (heap_alloc_new w _)
  have hdx : DfaAt W1 (g + 1) zeroD := by rw [hW1, zc_dfa]; exact DfaAt.new _ _ _ (by simp [hg])
  have HR := Lib.hid (fnet_any W1 v N (hv.below (by rw [hg]; exact hb1)))
  obtain ⟨cc0, cc1, cc2, cc3, cc4⟩ := netC (W := W1) (g := g) (v := v) hbx
  have HBX := Lib.hid hbx
  have HDX := Lib.hid hdx
  have HB1 := Lib.hid hb1
  have HS1 := Lib.hid hs1
  have HW1 := Lib.hid hW1
  rw [hW1] at HR cc0 cc1 cc2 cc3 cc4
  obtain ⟨r, hr⟩ : ∃ r, netR N = r := ⟨_, rfl⟩
  have HRR := Lib.hid hr
  rw [hr] at HR
  clear hv hfc hsz hbx hdx hb1 hs1 hW1 hr
  go_enter Try.func9, Try.ntmps9
  go_wp2_with fail
  refine HR.out.mono ?_
  rintro e w2 ⟨rfl, hb2⟩
  rw [← HW1.out, HS1.out] at hb2
  have HB2 := Lib.hid hb2
  have HBT := Lib.hid (HB1.out.trans (hb2.mono (by omega)))
  have hs2 : g + 2 ≤ w2.heap.size := by have := hb2.size; have := HS1.out; omega
  have HX2 := Lib.hid ((hb2.block g (by omega)).trans HBX.out)
  have HD2 := Lib.hid (HDX.out.below hb2 (by omega))
  clear hb2 HR cc0 cc1 cc2 cc3 cc4
  cases r with
  | false =>
    have HE : Hid (buildR N most = (ms0, 0, 3)) := Lib.hid (by unfold buildR; rw [if_pos HRR.out])
    go_wp2_with (refine wpList_store_dfa rfl _ _ rfl (g + 1) zeroD zeroD rfl zv_dfa HD2.out ?_; intro w9 hD9 hB9 hO9 hS9)
    refine bodyPost_ret (results_dfa2 rfl _ _ (g + 1) zeroD _ _ rfl rfl rfl hD9) rfl ?_
    rw [HE.out]
    exact ⟨zeroD, rfl, mat0 _, by first | exact HBT.out.trans (hB9 g (by omega)) | (rw [HG.out]; exact HBT.out.trans (hB9 g (by omega)))⟩
  | true =>
    obtain ⟨hs, hrn⟩ := HSZ.out HRR.out
    by_cases hm : most < 1 ∨ 4096 < most
    case pos =>
      have HE : Hid (buildR N most = (ms0, 0, 2)) := Lib.hid (by unfold buildR; rw [if_neg (by rw [HRR.out]; decide), if_pos hm])
      by_cases hm1 : most < 1
      · go_wp2_with (refine wpList_store_dfa rfl _ _ rfl (g + 1) zeroD zeroD rfl zv_dfa HD2.out ?_; intro w9 hD9 hB9 hO9 hS9)
        refine bodyPost_ret (results_dfa2 rfl _ _ (g + 1) zeroD _ _ rfl rfl rfl hD9) rfl ?_
        rw [HE.out]
        exact ⟨zeroD, rfl, mat0 _, by first | exact HBT.out.trans (hB9 g (by omega)) | (rw [HG.out]; exact HBT.out.trans (hB9 g (by omega)))⟩
      · have hm2 : 4096 < most := by omega
        go_wp2_with (refine wpList_store_dfa rfl _ _ rfl (g + 1) zeroD zeroD rfl zv_dfa HD2.out ?_; intro w9 hD9 hB9 hO9 hS9)
        refine bodyPost_ret (results_dfa2 rfl _ _ (g + 1) zeroD _ _ rfl rfl rfl hD9) rfl ?_
        rw [HE.out]
        exact ⟨zeroD, rfl, mat0 _, by first | exact HBT.out.trans (hB9 g (by omega)) | (rw [HG.out]; exact HBT.out.trans (hB9 g (by omega)))⟩
    case neg =>
      have hm1 : ¬ most < 1 := by omega
      have hm2 : ¬ 4096 < most := by omega
      have HE : Hid (buildR N most = tabR N (outerUp N most.toNat (most.toNat + 1))) := Lib.hid (by unfold buildR; rw [if_neg (by rw [HRR.out]; decide), if_neg hm])
      obtain ⟨M, hM⟩ : ∃ M : Nat, most = (M : Int) := ⟨most.toNat, by omega⟩
      subst hM
      have hM1 : 1 ≤ M := by omega
      have hM2 : M ≤ 4096 := by omega
      rw [Int.toNat_natCast] at HE
      obtain ⟨X, hX⟩ : ∃ X, w2.heap.size = X := ⟨_, rfl⟩
      have HX := Lib.hid hX
      have hXg : g + 2 ≤ X := by omega
      obtain ⟨w3, hw3⟩ : ∃ W, W = w2.alloc (.cells Try.zeroCells32 32) := ⟨_, rfl⟩
      have hd3 : DfaAt w3 X zeroD := by rw [hw3, zc_dfa]; exact DfaAt.new _ _ _ hX
      have hb3 : Below X w2 w3 := by rw [hw3]; exact (Below.refl X w2).alloc (by omega) _
      have hs3 : X + 1 ≤ w3.heap.size := hd3.lt
      obtain ⟨cc0, cc1, cc2, cc3, cc4⟩ := netC (W := w3) (g := g) (v := v) ((hb3.block g (by omega)).trans HX2.out)
      have HOF := of_any N.sets v.sa v.sn v.sc w3 (HV.out.below (w' := w3) (by rw [HG.out]; exact HBT.out.trans (hb3.mono (by omega)))).s
      rw [show widthC (clsL N.sets) 256 = widN N from width_cls _ _] at HOF
      have HOF := Lib.hid HOF
      have HB3 := Lib.hid hb3
      have HD4 := Lib.hid hd3
      have HW3 := Lib.hid hw3
      rw [hw3] at HOF cc0 cc1 cc2 cc3 cc4
      clear hd3 hb3 hm hw3
      go_wp2_with fail
      refine HOF.out.mono ?_
      rintro e w4 ⟨rfl, hb4⟩
      rw [← HW3.out] at hb4
      have HD5 := Lib.hid (HD4.out.below hb4 (by omega))
      have HB4 := Lib.hid (HB3.out.trans (hb4.mono (by omega)))
      have hs4 : X + 1 ≤ w4.heap.size := by have := hb4.size; omega
      clear hb4 HOF HD4 cc0 cc1 cc2 cc3 cc4
      go_wp2_with (refine wpList_store_dcl rfl _ _ rfl X zeroD (clsL N.sets) rfl rfl HD5.out ?_; intro w5 hD5 hB5 hO5 hS5; have c256 := hD5.wd; have f256 := hD5.frozen 256; have HB5 := Lib.hid (HB4.out.trans (hB5 X (Nat.le_refl _))); have HD6 := Lib.hid hD5; have hs5 : X + 1 ≤ w5.heap.size := hD5.lt; clear hD5 hB5 hO5 hS5)
      have hs6 : (w5.setCell ⟨X, 256, none⟩ (.int .i64 (widN N : Int))).heap.size = w5.heap.size := by simp
      have hdb := PB.begin (w5.setCell ⟨X, 256, none⟩ (.int .i64 (widN N : Int))) X (clsL N.sets) (widN N : Int) (HD6.out.set_ 256 _ (dfA_setwd _ _)) w5.heap.size hs6 (by omega)
      obtain ⟨s5, hs5'⟩ : ∃ x, w5.heap.size = x := ⟨_, rfl⟩
      rw [hs5'] at hdb
      obtain ⟨W6, hW6⟩ : ∃ W, W = ((((w5.setCell ⟨X, 256, none⟩ (.int .i64 (widN N : Int))).alloc (.cells #[.slice none 0 0] 23)).alloc (.map #[] 0)).alloc (.cells #[.slice (some ⟨s5, 0, none⟩) 1 1] 25)).alloc (.cells #[.map (some (s5 + 1))] 57) := ⟨_, rfl⟩
      rw [← hW6] at hdb
      have hb6 : Below X w2 W6 := by
        rw [hW6]
        exact ((((HB5.out.setCell (p := ⟨X, 256, none⟩) (Nat.le_refl _) _).alloc (by rw [hs6]; omega) _).alloc (by simp; omega) _).alloc (by simp; omega) _).alloc (by simp; omega) _
      have HDB0 := Lib.hid hdb
      have HB6 := Lib.hid hb6
      have HGT := Lib.hid (HBT.out.trans (hb6.mono (by omega)))
      have HX6 := Lib.hid ((hb6.block g (by omega)).trans HX2.out)
      have HD26 := Lib.hid (HD2.out.below hb6 (by omega))
      have hs6' : X + 1 ≤ W6.heap.size := hdb.db.le
      rw [hs5']
      show Code.wp _ _ _ _ (((((w5.setCell ⟨X, 256, none⟩ (.int .i64 (widN N : Int))).alloc (.cells #[.slice none 0 0] 23)).alloc (.map #[] 0)).alloc (.cells #[.slice (some ⟨s5, 0, none⟩) 1 1] 25)).alloc (.cells #[.map (some (s5 + 1))] 57))
      rw [← hW6]
      obtain ⟨wid, hwid⟩ : ∃ x, widN N = x := ⟨_, rfl⟩
      have HWID := Lib.hid hwid
      have hwidle : wid ≤ 256 := by rw [← hwid]; exact cnt_le _ _
      rw [hwid] at HDB0
      obtain ⟨XA, hXA⟩ : ∃ x, s5 + 2 = x := ⟨_, rfl⟩
      obtain ⟨mb, hmb⟩ : ∃ x, s5 + 1 = x := ⟨_, rfl⟩
      rw [show s5 + 3 = XA + 1 by omega, hXA, hmb] at HDB0
      rw [hXA]
      clear hdb hW6 hb6 HD6 HB5 HD5 HB4 c256 f256 hs6 hs5' HB3 hwid hs5 hs4 hXA hmb
      go_loopw [11] (fun iv wr => ∃ (k : Nat) (D : Df) (fv : Value) (os nx : List (Sl Int)) (lb : List Int) (rest : List RowD), k ≤ os.length ∧ iv = .int .i64 (k : Int) ∧ PB (X + 1) X XA (XA + 1) mb wr D fv os nx lb (.slice none 0 0) [] rest ∧ outerUp N M k = some (os.map Sl.xs, nx.map Sl.xs, lb) ∧ D.cl = clsL N.sets ∧ D.wd = (wid : Int) ∧ GoodF N M (os.map Sl.xs) ∧ (∀ o ∈ os, ∀ z ∈ o.xs, 0 ≤ z ∧ z < 9223372036854775808) ∧ Below X W6 wr) (fun i _ => M - (intOf i).toNat)
      case atStart => exact ⟨0, _, _, _, _, _, _, by omega, rfl, HDB0.out, rfl, rfl, rfl, ⟨by simp, by simp; omega, by simp⟩, fun o ho z hz => by (rw [List.mem_singleton] at ho; subst ho; cases hz), Below.refl _ _⟩
      case round =>
        obtain ⟨k, D, fv, os, nx, lb, rest, hk, rfl, hdb, hup, hcl, hwd, hgood, hnum, hbw⟩ := hrel
        have HDB := Lib.hid hdb
        have HUP := Lib.hid hup
        have HGO := Lib.hid hgood
        have HNU := Lib.hid hnum
        have HBW := Lib.hid hbw
        have hosM : os.length ≤ M := by have := hgood.2.1; rwa [List.length_map] at this
        have hgl : X + 1 ≤ wr.heap.size := hdb.db.le
        obtain ⟨fa, fc, rfl, hf1, hf2⟩ := own_form hdb.db.own.1
        have HDg := Lib.hid (HD26.out.below hbw (by omega))
        have HXg := Lib.hid ((hbw.block g (by omega)).trans HX6.out)
        have HBX2 := Lib.hid (HGT.out.trans (hbw.mono (by omega)))
        have HCL := Lib.hid hcl
        have HWD := Lib.hid hwd
        have HDX2 := Lib.hid hdb.db.box
        have cA : wr.cell? ⟨XA, 0, none⟩ = some (.slice fa os.length fc) := by rw [cell_of_row wr XA 0 _ _ _ hdb.all_]; rfl
        have HAA := Lib.hid hdb.all_
        have hgA : g + 1 < XA := by have := hdb.bA; omega
        clear hdb hup hgood hnum hbw hcl hwd
        by_cases hlt : k < os.length
        case neg =>
          obtain rfl : k = os.length := by omega
          have z2 : ¬ ((os.length : Int) < (os.length : Int)) := by omega
          have HFIN : Hid (buildR N (M : Int) = (⟨clsL N.sets, (wid : Int), nx.map Sl.xs, lb⟩, (os.length : Int), 0)) := Lib.hid (by
            rw [HE.out]
            have h1 := outer_end HUP.out (by rw [List.length_map]; exact Nat.le_refl _) (M + 1 - os.length)
            rw [show os.length + (M + 1 - os.length) = M + 1 by omega] at h1
            rw [h1]
            simp only [tabR, List.length_map]
            rw [HWID.out])
          have HM : Hid (∀ w9 : World, (∀ k, k ≠ g + 1 → w9.heap[k]? = wr.heap[k]?) → w9.heap.size = wr.heap.size → MAt w9 D ⟨clsL N.sets, (wid : Int), nx.map Sl.xs, lb⟩) := Lib.hid fun w9 hO9 hS9 => by
            have hm := (HDB.out.db.kept (w' := w9) (fun q hq hq2 => hO9 q (by omega)) (by omega)).mat
            rw [HCL.out, HWD.out] at hm; exact hm
          have HL : Hid (∀ w9 : World, (∀ B, B ≤ g + 1 → Below B wr w9) → Below w.heap.size w w9) := Lib.hid fun w9 hB9 => by first | exact HBX2.out.trans (hB9 g (by omega)) | (rw [HG.out]; exact HBX2.out.trans (hB9 g (by omega)))
          have dA : wr.drew.cell? ⟨XA, 0, none⟩ = some (.slice fa os.length fc) := cA
          have HDXd : Hid (DfaAt wr.drew X D) := Lib.hid HDX2.out
          have HDgd : Hid (DfaAt wr.drew (g + 1) zeroD) := Lib.hid HDg.out
          go_wp2_with fail
          refine wp_region_start 6 #[false, false, false, false, false, false] rfl rfl rfl ?_
          refine wpAny_ready (rs := [0, 1]) (by kernel_rfl) (by simp) ?_
          refine AllReady.cons rfl (fun K hK => ?_) (AllReady.cons rfl (fun K hK => ?_) AllReady.nil)
          · rw [if_pos (by rfl)]
            refine wp_load_dfa rfl X D rfl HDXd.out ?_
            refine hK _ _ ?_
            clear hK K
            try simp only [Act.put, List.getElem_toArray, List.getElem_cons_succ, List.getElem_cons_zero, List.setIfInBounds_toArray, List.set_cons_zero, List.set_cons_succ]
            refine wpAny_ready (rs := [1, 3]) (by kernel_rfl) (by simp) ?_
            refine AllReady.cons rfl (fun K hK => ?_) (AllReady.cons rfl (fun K hK => ?_) AllReady.nil)
            · rw [if_pos (by rfl)]
              have cS := dA
              go_simp
              clear cS
              refine hK _ _ ?_
              clear hK K
              try simp only [Act.put, List.getElem_toArray, List.getElem_cons_succ, List.getElem_cons_zero, List.setIfInBounds_toArray, List.set_cons_zero, List.set_cons_succ]
              refine wpAny_take (i := 2) (v := .int .i64 (os.length : Int)) rfl (by kernel_rfl) (by kernel_rfl) (by kernel_rfl) (fun _ _ _ h => h) (Or.inl ⟨by rfl, fun X => ?_⟩) ?_
              · go_simp
              try simp only [Act.put, List.getElem_toArray, List.getElem_cons_succ, List.getElem_cons_zero, List.setIfInBounds_toArray, List.set_cons_zero, List.set_cons_succ]
              refine wpAny_ready (rs := [3]) (by kernel_rfl) (by simp) ?_
              refine AllReady.cons rfl (fun K hK => ?_) AllReady.nil
              rw [if_pos (by rfl)]
              refine wp_store_dfa rfl (g + 1) zeroD D rfl rfl HDgd.out ?_
              intro w9 hD9 hB9 hO9 hS9
              refine hK _ _ ?_
              clear hK K
              try simp only [Act.put, List.getElem_toArray, List.getElem_cons_succ, List.getElem_cons_zero, List.setIfInBounds_toArray, List.set_cons_zero, List.set_cons_succ]
              refine wpAny_take (i := 4) (v := .int .i64 (os.length : Int)) rfl (by kernel_rfl) (by kernel_rfl) (by kernel_rfl) (fun _ _ _ h => h) (Or.inl ⟨by rfl, fun X => ?_⟩) ?_
              · go_simp
              try simp only [Act.put, List.getElem_toArray, List.getElem_cons_succ, List.getElem_cons_zero, List.setIfInBounds_toArray, List.set_cons_zero, List.set_cons_succ]
              refine wpAny_take (i := 5) (v := .int .i64 0) rfl (by kernel_rfl) (by kernel_rfl) (by kernel_rfl) (fun _ _ _ h => h) (Or.inl ⟨by rfl, fun X => ?_⟩) ?_
              · go_simp
              try simp only [Act.put, List.getElem_toArray, List.getElem_cons_succ, List.getElem_cons_zero, List.setIfInBounds_toArray, List.set_cons_zero, List.set_cons_succ]
              refine wpAny_done (by kernel_rfl) ?_ _
              go_wp2_with fail
              refine bodyPost_ret (results_dfa2 rfl _ _ (g + 1) D _ _ rfl rfl rfl hD9) rfl ?_
              rw [HFIN.out]
              exact ⟨D, rfl, HM.out w9 (fun q hq => hO9 q hq) hS9, HL.out w9 (fun B hB => (Below.refl _ _).drew.trans (hB9 B hB))⟩
            · rw [if_pos (by rfl)]
              refine wp_store_dfa rfl (g + 1) zeroD D rfl rfl HDgd.out ?_
              intro w9 hD9 hB9 hO9 hS9
              refine hK _ _ ?_
              clear hK K
              try simp only [Act.put, List.getElem_toArray, List.getElem_cons_succ, List.getElem_cons_zero, List.setIfInBounds_toArray, List.set_cons_zero, List.set_cons_succ]
              refine wpAny_ready (rs := [1]) (by kernel_rfl) (by simp) ?_
              refine AllReady.cons rfl (fun K hK => ?_) AllReady.nil
              rw [if_pos (by rfl)]
              have cS : w9.cell? ⟨XA, 0, none⟩ = some (.slice fa os.length fc) := by rw [cell_of_row w9 XA 0 _ _ _ ((hO9 XA (by omega)).trans HAA.out)]; rfl
              go_simp
              clear cS
              refine hK _ _ ?_
              clear hK K
              try simp only [Act.put, List.getElem_toArray, List.getElem_cons_succ, List.getElem_cons_zero, List.setIfInBounds_toArray, List.set_cons_zero, List.set_cons_succ]
              refine wpAny_take (i := 2) (v := .int .i64 (os.length : Int)) rfl (by kernel_rfl) (by kernel_rfl) (by kernel_rfl) (fun _ _ _ h => h) (Or.inl ⟨by rfl, fun X => ?_⟩) ?_
              · go_simp
              try simp only [Act.put, List.getElem_toArray, List.getElem_cons_succ, List.getElem_cons_zero, List.setIfInBounds_toArray, List.set_cons_zero, List.set_cons_succ]
              refine wpAny_take (i := 4) (v := .int .i64 (os.length : Int)) rfl (by kernel_rfl) (by kernel_rfl) (by kernel_rfl) (fun _ _ _ h => h) (Or.inl ⟨by rfl, fun X => ?_⟩) ?_
              · go_simp
              try simp only [Act.put, List.getElem_toArray, List.getElem_cons_succ, List.getElem_cons_zero, List.setIfInBounds_toArray, List.set_cons_zero, List.set_cons_succ]
              refine wpAny_take (i := 5) (v := .int .i64 0) rfl (by kernel_rfl) (by kernel_rfl) (by kernel_rfl) (fun _ _ _ h => h) (Or.inl ⟨by rfl, fun X => ?_⟩) ?_
              · go_simp
              try simp only [Act.put, List.getElem_toArray, List.getElem_cons_succ, List.getElem_cons_zero, List.setIfInBounds_toArray, List.set_cons_zero, List.set_cons_succ]
              refine wpAny_done (by kernel_rfl) ?_ _
              go_wp2_with fail
              refine bodyPost_ret (results_dfa2 rfl _ _ (g + 1) D _ _ rfl rfl rfl hD9) rfl ?_
              rw [HFIN.out]
              exact ⟨D, rfl, HM.out w9 (fun q hq => hO9 q hq) hS9, HL.out w9 (fun B hB => (Below.refl _ _).drew.trans (hB9 B hB))⟩
          · rw [if_pos (by rfl)]
            have cS := dA
            go_simp
            clear cS
            refine hK _ _ ?_
            clear hK K
            try simp only [Act.put, List.getElem_toArray, List.getElem_cons_succ, List.getElem_cons_zero, List.setIfInBounds_toArray, List.set_cons_zero, List.set_cons_succ]
            refine wpAny_take (i := 2) (v := .int .i64 (os.length : Int)) rfl (by kernel_rfl) (by kernel_rfl) (by kernel_rfl) (fun _ _ _ h => h) (Or.inl ⟨by rfl, fun X => ?_⟩) ?_
            · go_simp
            try simp only [Act.put, List.getElem_toArray, List.getElem_cons_succ, List.getElem_cons_zero, List.setIfInBounds_toArray, List.set_cons_zero, List.set_cons_succ]
            refine wpAny_ready (rs := [0]) (by kernel_rfl) (by simp) ?_
            refine AllReady.cons rfl (fun K hK => ?_) AllReady.nil
            rw [if_pos (by rfl)]
            refine wp_load_dfa rfl X D rfl HDXd.out ?_
            refine hK _ _ ?_
            clear hK K
            try simp only [Act.put, List.getElem_toArray, List.getElem_cons_succ, List.getElem_cons_zero, List.setIfInBounds_toArray, List.set_cons_zero, List.set_cons_succ]
            refine wpAny_ready (rs := [3]) (by kernel_rfl) (by simp) ?_
            refine AllReady.cons rfl (fun K hK => ?_) AllReady.nil
            rw [if_pos (by rfl)]
            refine wp_store_dfa rfl (g + 1) zeroD D rfl rfl HDgd.out ?_
            intro w9 hD9 hB9 hO9 hS9
            refine hK _ _ ?_
            clear hK K
            try simp only [Act.put, List.getElem_toArray, List.getElem_cons_succ, List.getElem_cons_zero, List.setIfInBounds_toArray, List.set_cons_zero, List.set_cons_succ]
            refine wpAny_take (i := 4) (v := .int .i64 (os.length : Int)) rfl (by kernel_rfl) (by kernel_rfl) (by kernel_rfl) (fun _ _ _ h => h) (Or.inl ⟨by rfl, fun X => ?_⟩) ?_
            · go_simp
            try simp only [Act.put, List.getElem_toArray, List.getElem_cons_succ, List.getElem_cons_zero, List.setIfInBounds_toArray, List.set_cons_zero, List.set_cons_succ]
            refine wpAny_take (i := 5) (v := .int .i64 0) rfl (by kernel_rfl) (by kernel_rfl) (by kernel_rfl) (fun _ _ _ h => h) (Or.inl ⟨by rfl, fun X => ?_⟩) ?_
            · go_simp
            try simp only [Act.put, List.getElem_toArray, List.getElem_cons_succ, List.getElem_cons_zero, List.setIfInBounds_toArray, List.set_cons_zero, List.set_cons_succ]
            refine wpAny_done (by kernel_rfl) ?_ _
            go_wp2_with fail
            refine bodyPost_ret (results_dfa2 rfl _ _ (g + 1) D _ _ rfl rfl rfl hD9) rfl ?_
            rw [HFIN.out]
            exact ⟨D, rfl, HM.out w9 (fun q hq => hO9 q hq) hS9, HL.out w9 (fun B hB => (Below.refl _ _).drew.trans (hB9 B hB))⟩
        case pos =>
          obtain ⟨b1, off1, A1, c1, xx, rfl, hb1, hx, d1, hr1⟩ := HDB.out.db.at_ hlt
          have hxN : xx.length ≤ 1000 := by have h1 := HGO.out.2.2 xx (List.mem_of_getElem? hx); have h2 := HLS.out; omega
          have z0 : (0 : Int) ≤ (k : Int) := by omega
          have z1 : (k : Int) < (os.length : Int) := by omega
          have HXK := Lib.hid hx
          obtain ⟨i0, hi, hz0, hz1, hz2⟩ := info_parts infoInt
          have cw : wr.cell? ⟨X, 256, none⟩ = some (.int .i64 (wid : Int)) := by rw [← HWD.out]; exact HDX2.out.wd
          clear hx hr1 d1
          go_wp2_with (at_make; refine wpList_make_full wr rfl _ _ 23 rfl wr.heap.size 3 i0 (.int .i64 0) 1 Try.underlying23 hi hz0 hz1 .i64 .i64 (wid : Int) (wid : Int) wid rfl rfl rfl rfl (by rw [hz2]; omega) (by unfold maxLen; omega) (Nat.le_refl _) ?_; intro w3 hown3 hg3; have HO3 := Lib.hid hown3; have HG3 := Lib.hid hg3; clear hown3 hg3 cw cA)
          have hb3 : Below wr.heap.size wr w3 := ⟨HG3.out.os, HG3.out.tape, HG3.out.output, HG3.out.size, fun q hq => HG3.out.block q hq (by simp)⟩
          have HDB1 := Lib.hid (HDB.out.made_c (r := List.replicate wid 0) hb3 (by rw [List.length_replicate, ← rep_cells]; exact HO3.out))
          have HBW1 := Lib.hid (HBW.out.trans (hb3.mono (by omega)))
          have HIN0 : Hid (innerUp N M xx k (os.map Sl.xs) 0 = some (os.map Sl.xs, [])) := Lib.hid rfl
          obtain ⟨gr, hgr⟩ : ∃ x, wr.heap.size = x := ⟨_, rfl⟩
          have hgrX : X + 1 ≤ gr := by omega
          rw [hgr] at HDB1 ⊢
          clear hgr hb3 HO3 HG3 hi hz0 hz1 hz2
          go_loopg [50] wid (fun gk iv wq => ∃ (c : Nat) (fv2 : Value) (os' : List (Sl Int)) (r : List Int) (rest' : List RowD), c + gk = wid ∧ iv = .int .i64 (c : Int) ∧ PB (X + 1) X XA (XA + 1) mb wq D fv2 os' nx lb (.slice (some ⟨gr, 0, none⟩) wid wid) (r ++ List.replicate (wid - c) 0) rest' ∧ innerUp N M xx k (os.map Sl.xs) c = some (os'.map Sl.xs, r) ∧ (∀ o ∈ os', ∀ z ∈ o.xs, 0 ≤ z ∧ z < 9223372036854775808) ∧ Below X W6 wq)
          case atStart => exact ⟨0, _, _, [], _, by omega, rfl, HDB1.out, HIN0.out, HNU.out, HBW1.out⟩
          case round =>
            obtain ⟨c, fv2, os', r, rest', hc, rfl, hdb, hin, hnum, hbw⟩ := hrel
            have HDQ := Lib.hid hdb
            have HIN := Lib.hid hin
            have HNQ := Lib.hid hnum
            have HBQ := Lib.hid hbw
            obtain ⟨fa2, fc2, rfl, _, _⟩ := own_form hdb.db.own.1
            obtain ⟨hg', hrl, hlen', hkeep⟩ := inner_good HGO.out c hin
            have HG1 := Lib.hid hg'
            have hosM' : os'.length ≤ M := by have := hg'.2.1; rwa [List.length_map] at this
            have hkos : k < os'.length := by rw [List.length_map, List.length_map] at hlen'; omega
            have HXK' := Lib.hid (hkeep k xx HXK.out)
            have hrlen : r.length = c := hrl
            have HDXq := Lib.hid hdb.db.box
            have hgq : X + 1 ≤ wr.heap.size := hdb.db.le
            clear hdb hin hnum hbw hg' hlen' hkeep hrl
            by_cases hltc : c < wid
            case neg =>
              have y1 : ¬ ((c : Int) < (wid : Int)) := by omega
              have hcw : c = wid := by omega
              have HUP2 := Lib.hid (outer_step HUP.out HXK.out (by rw [HWID.out, ← hcw]; exact HIN.out))
              have hnl := outer_len k HUP.out
              rw [List.length_map] at hnl
              have hrw : r.length = wid := by omega
              have HDR := Lib.hid (by
                have h := HDQ.out
                rw [show wid - c = 0 by omega, List.replicate_zero, List.append_nil] at h
                have h2 := PB.free_c (ca := some ⟨gr, 0, none⟩) (cc := wid) (by rw [hrw]; exact h)
                rw [hrw] at h2; exact h2 : PB (X + 1) X XA (XA + 1) mb wr D (.slice fa2 os'.length fc2) os' nx lb (.slice none 0 0) [] (rest' ++ [inn ⟨some ⟨gr, 0, none⟩, wid, wid, r⟩]))
              clear hcw
              have c257 := HDXq.out.nx
              have HON := Lib.hid HDR.out.db.own.2.1
              have HAN := Lib.hid (app_sl HON.out ⟨some ⟨gr, 0, none⟩, wid, wid, r⟩ (by omega) hgq wr.heap.size rfl)
              have ne1 : (Value.slice D.na D.nl D.nc).ownBlock ≠ some X := by intro e; have := (HON.out.lt _ e).1; omega
              have NE1 := Lib.hid ne1
              clear ne1
              go_wp2_with (at_builtin; refine HAN.out _ _ _ _ _ rfl _ _ rfl rfl rfl ?_; intro gg cap w6 hownB hgrow hat; have HOB := Lib.hid hownB; have HGB := Lib.hid hgrow; have HAT := Lib.hid hat; have hdx6 : DfaAt w6 X D := (hgrow.block X (by simp; omega) (fun e => NE1.out e.symm)).trans ((heap_alloc_old wr _ (by omega)).trans HDXq.out); have cS := hdx6.nx; have fS := hdx6.frozen 257; clear hownB hgrow hat hdx6)
              have HD7 := Lib.hid (HDR.out.put_n ((Below.refl wr.heap.size wr).alloc (Nat.le_refl _) (.cells #[.slice (some ⟨gr, 0, none⟩) wid wid] 23)) HGB.out (a := some ⟨gg, 0, none⟩) (n := nx.length + 1) (c := cap) (z := ⟨some ⟨gr, 0, none⟩, wid, wid, r⟩) HOB.out (row_new HAT.out (by omega) rfl) ⟨List.mem_append_right _ (.head _), hrw.symm⟩)
              have HB7 : Hid (Below X W6 (w6.setCell ⟨X, 257, none⟩ (.slice (some ⟨gg, 0, none⟩) (nx.length + 1) cap))) := Lib.hid ((below_grown (HBQ.out.alloc (by omega) _) (by simp; omega) HGB.out (fun q hq => by have := (own_ge HON.out hq).1; omega)).setCell (p := ⟨X, 257, none⟩) (Nat.le_refl _) _)
              obtain ⟨w7, hw7⟩ : ∃ W, W = w6.setCell ⟨X, 257, none⟩ (.slice (some ⟨gg, 0, none⟩) (nx.length + 1) cap) := ⟨_, rfl⟩
              rw [← hw7]
              rw [← hw7] at HD7 HB7
              clear hw7 cS fS c257 HOB HGB HAT HAN HON NE1 HDR
              have hg7 : X + 1 ≤ w7.heap.size := HD7.out.db.le
              have HX7 := Lib.hid ((HB7.out.block g (by omega)).trans HX6.out)
              obtain ⟨n0, n1, n2, n3, n4⟩ := netC (W := w7) (g := g) (v := v) HX7.out
              obtain ⟨b2, off2, A2, c2, xx', rfl, hb2, hx', d2, hr2⟩ := HD7.out.db.at_ hkos
              obtain rfl : xx = xx' := Option.some.inj (HXK'.out.symm.trans hx')
              have c258 : w7.cell? ⟨X, 258, none⟩ = some (.slice D.la D.ll D.lc) := HD7.out.db.box.lb
              obtain ⟨ol, hol⟩ : ∃ q, os'.length = q := ⟨_, rfl⟩
              have HOL := Lib.hid hol
              have cA7 : w7.cell? ⟨XA, 0, none⟩ = some (.slice (some ⟨b2, off2, none⟩) ol fc2) := by rw [← hol, cell_of_row w7 XA 0 _ _ _ HD7.out.all_]; rfl
              have HTK : Hid (∀ X', Onto w7.drew X' → Calls Try.prog 32 #[.agg (netA v), .slice A2 xx.length c2] X' fun e w' => e = .returned (.int .i64 (tokenL N xx)) ∧ Below X'.heap.size X' w') := Lib.hid fun X' hX => ftoken_any X' v N A2 xx.length c2 xx (HV.out.below (by rw [HG.out]; exact (HGT.out.trans (HB7.out.mono (by omega))).trans ((onto_drew hX).mono (by omega)))) (hr2.below (onto_drew hX))
              obtain ⟨tk, htk⟩ : ∃ q, tokenL N xx = q := ⟨_, rfl⟩
              rw [htk] at HTK HUP2
              clear hx' hr2 htk
              obtain ⟨xl, hxl⟩ : ∃ q, xx.length = q := ⟨_, rfl⟩
              rw [hxl] at d2 HTK
              clear hxl
              have hkol : (k : Int) < (ol : Int) := by omega
              clear hol
              refine wp_region_fam_tail_lit (E := Onto) 9 3
                [isV (.pointer (some ⟨X, 258, none⟩)),
                 isV (.slice D.la D.ll D.lc),
                 isV (.agg (netA v)),
                 isV (.slice (some ⟨b2, off2, none⟩) ol fc2),
                 isV (.int .i64 (k : Int)),
                 isV (.pointer (some ⟨b2, off2 + k, none⟩)),
                 isV (.slice A2 xl c2),
                 isV (.int .i64 tk),
                 newB (intC tk) 3]
                [some 93, some 94, some 95, some 96, some 97, some 98, some 99, some 100, some 101] #[true, true, true, true, true, true, true, true, true, false, false, false] (by kernel_rfl) rfl (by kernel_rfl) (by kernel_rfl) rfl rfl rfl Onto.trans Onto.refl ?monoZ ?obZ ?qZ
              case monoZ => exact ⟨isV_mono _ _, isV_mono _ _, isV_mono _ _, isV_mono _ _, isV_mono _ _, isV_mono _ _, isV_mono _ _, isV_mono _ _, newB_mono _ _, trivial⟩
              case obZ =>
                refine Obs.cons (j := 1) rfl ?_ ?_
                · refine Ob.free [(7, none)] (by kernel_rfl) (isV (.pointer (some ⟨X, 258, none⟩))) rfl rfl (fun a X hE hL => ?_)
                  simp [Seen, slotAt] at hL
                  have h7 := hL
                  rw [relAt_eq]
                  go_simp
                  exact ⟨Onto.refl _, rfl⟩
                refine Obs.cons (j := 2) rfl ?_ ?_
                · refine Ob.free [(93, some 0)] (by kernel_rfl) (isV (.slice D.la D.ll D.lc)) rfl rfl (fun a X hE hL => ?_)
                  simp [Seen, slotAt, famV, isV] at hL
                  have h93 := hL
                  rw [relAt_eq]
                  have f0 := keeps hE _ _ c258
                  go_simp
                  exact ⟨Onto.refl _, rfl⟩
                refine Obs.cons (j := 3) rfl ?_ ?_
                · refine Ob.free [(2, none)] (by kernel_rfl) (isV (.agg (netA v))) rfl rfl (fun a X hE hL => ?_)
                  simp [Seen, slotAt] at hL
                  have h2 := hL
                  rw [relAt_eq]
                  have f0 := keeps hE _ _ n0; have f1 := keeps hE _ _ n1; have f2 := keeps hE _ _ n2; have f3 := keeps hE _ _ n3; have f4 := keeps hE _ _ n4
                  go_simp
                  exact ⟨Onto.refl _, rfl⟩
                refine Obs.cons (j := 4) rfl ?_ ?_
                · refine Ob.free [(8, none)] (by kernel_rfl) (isV (.slice (some ⟨b2, off2, none⟩) ol fc2)) rfl rfl (fun a X hE hL => ?_)
                  simp [Seen, slotAt] at hL
                  have h8 := hL
                  rw [relAt_eq]
                  have f0 := keeps hE _ _ cA7
                  go_simp
                  exact ⟨Onto.refl _, rfl⟩
                refine Obs.cons (j := 5) rfl ?_ ?_
                · refine Ob.free [(11, none)] (by kernel_rfl) (isV (.int .i64 (k : Int))) rfl rfl (fun a X hE hL => ?_)
                  simp [Seen, slotAt] at hL
                  have h11 := hL
                  rw [relAt_eq]
                  go_simp
                  exact ⟨Onto.refl _, rfl⟩
                refine Obs.cons (j := 6) rfl ?_ ?_
                · refine Ob.free [(96, some 3), (97, some 4)] (by kernel_rfl) (isV (.pointer (some ⟨b2, off2 + k, none⟩))) rfl rfl (fun a X hE hL => ?_)
                  simp [Seen, slotAt, famV, isV] at hL
                  obtain ⟨h96, h97⟩ := hL
                  rw [relAt_eq]
                  go_simp
                  exact ⟨Onto.refl _, rfl⟩
                refine Obs.cons (j := 7) rfl ?_ ?_
                · refine Ob.free [(98, some 5)] (by kernel_rfl) (isV (.slice A2 xl c2)) rfl rfl (fun a X hE hL => ?_)
                  simp [Seen, slotAt, famV, isV] at hL
                  have h98 := hL
                  rw [relAt_eq]
                  have f0 := keeps hE _ _ d2
                  go_simp
                  exact ⟨Onto.refl _, rfl⟩
                refine Obs.cons (j := 8) rfl ?_ ?_
                · refine Ob.free [(95, some 2), (99, some 6)] (by kernel_rfl) (isV (.int .i64 tk)) rfl rfl (fun a X hE hL => ?_)
                  simp [Seen, slotAt, famV, isV] at hL
                  obtain ⟨h95, h99⟩ := hL
                  rw [relAt_eq]
                  go_simp
                  rw [relUpon_enter]
                  go_at_call 32
                  refine (HTK.out X hE).mono ?_
                  rintro e Y ⟨rfl, hY⟩
                  exact ⟨_, rfl, hY, rfl⟩
                refine Obs.cons (j := 9) rfl ?_ ?_
                · refine Ob.free [(100, some 7)] (by kernel_rfl) (newB (intC tk) 3) rfl rfl (fun a X hE hL => ?_)
                  simp [Seen, slotAt, famV, isV] at hL
                  have h100 := hL
                  rw [relAt_eq]
                  go_simp
                  exact ⟨(Below.refl _ _).alloc (Nat.le_refl _) _, X.heap.size, rfl, heap_alloc_new X _⟩
                exact trivial
              case qZ =>
                intro x wA hE hV
                simp [AllV, famV, isV] at hV
                obtain ⟨-, h94, -, -, -, -, -, -, h101⟩ := hV
                simp only [puts, Act.put, List.setIfInBounds_toArray, List.set_cons_zero, List.set_cons_succ, h94]
                generalize x 93 = y93
                generalize x 95 = y95
                generalize x 96 = y96
                generalize x 97 = y97
                generalize x 98 = y98
                generalize x 99 = y99
                generalize x 100 = y100
                generalize x 101 = y101 at h101 ⊢
                clear h94
                have hbA := onto_drew hE
                have HBA := Lib.hid hbA
                have HOA := Lib.hid (ownB HD7.out.db.own.2.2.1 hbA)
                have HXA := Lib.hid (HD7.out.below hbA).db.box
                have hgA : X + 1 ≤ wA.heap.size := by have := hbA.size; omega
                obtain ⟨gn, rfl, hgn⟩ := h101
                have ne3 : (Value.slice D.la D.ll D.lc).ownBlock ≠ some X := by intro e; have := (HOA.out.lt _ e).1; omega
                have NE3 := Lib.hid ne3
                clear hE hbA ne3 c258 cA7 d2 n0 n1 n2 n3 n4
                refine wpAny_ready (rs := [9]) (by kernel_rfl) (by simp) ?_
                refine AllReady.cons rfl (fun K hK => ?_) AllReady.nil
                rw [if_pos (by rfl)]
                refine wp_app_el (C := intC) (v := .slice D.la D.ll D.lc) (t := 23) (by decide) intC_len intC_one Try.underlying23 infoInt rfl _ _ _ rfl rfl HOA.out tk rfl hgn (by unfold maxLen; omega) (by omega) hgA ?_
                intro gg9 cap9 wB hownB hgrow hat
                have HOB := Lib.hid hownB
                have HGB := Lib.hid hgrow
                have HAT := Lib.hid hat
                have HXB : Hid (DfaAt wB X _) := Lib.hid ((hgrow.block X (by omega) (fun e => NE3.out e.symm)).trans HXA.out)
                clear hownB hgrow hat
                refine hK _ _ ?_
                clear hK K
                try simp only [Act.put, List.getElem_toArray, List.getElem_cons_succ, List.getElem_cons_zero, List.setIfInBounds_toArray, List.set_cons_zero, List.set_cons_succ]
                refine wpAny_take (i := 10) (v := .pointer (some ⟨X, 258, none⟩)) rfl (by kernel_rfl) (by kernel_rfl) (by kernel_rfl) (fun _ _ _ h => h) (Or.inl ⟨by rfl, fun X => ?_⟩) ?_
                · go_simp
                try simp only [Act.put, List.getElem_toArray, List.getElem_cons_succ, List.getElem_cons_zero, List.setIfInBounds_toArray, List.set_cons_zero, List.set_cons_succ]
                refine wpAny_ready (rs := [11]) (by kernel_rfl) (by simp) ?_
                refine AllReady.cons rfl (fun K hK => ?_) AllReady.nil
                rw [if_pos (by rfl)]
                have cS := HXB.out.lb
                have fS := HXB.out.frozen 258
                go_simp
                clear cS fS
                refine hK _ _ ?_
                clear hK K
                try simp only [Act.put, List.getElem_toArray, List.getElem_cons_succ, List.getElem_cons_zero, List.setIfInBounds_toArray, List.set_cons_zero, List.set_cons_succ]
                refine wpAny_done (by kernel_rfl) ?_ _
                have HDL := Lib.hid (HD7.out.put_l HBA.out HGB.out (a := some ⟨gg9, 0, none⟩) (n := lb.length + 1) (c := cap9) (z := tk) HOB.out (row_new HAT.out HBA.out.size rfl))
                have HBL : Hid (Below X W6 (wB.setCell ⟨X, 258, none⟩ (.slice (some ⟨gg9, 0, none⟩) (lb.length + 1) cap9))) := Lib.hid ((below_grown (HB7.out.trans (HBA.out.mono (by omega))) (by omega) HGB.out (fun q hq => by have := (own_ge HOA.out hq).1; omega)).setCell (p := ⟨X, 258, none⟩) (Nat.le_refl _) _)
                obtain ⟨w8, hw8⟩ : ∃ W, W = wB.setCell ⟨X, 258, none⟩ (.slice (some ⟨gg9, 0, none⟩) (lb.length + 1) cap9) := ⟨_, rfl⟩
                rw [← hw8]
                rw [← hw8] at HDL HBL
                clear hw8 HOB HGB HAT HXB HXA HOA HBA NE3
                have HUP3 : Hid (outerUp N M (k + 1) = some (os'.map Sl.xs, (nx ++ [(⟨some ⟨gr, 0, none⟩, wid, wid, r⟩ : Sl Int)]).map Sl.xs, lb ++ [tk])) := Lib.hid (by rw [List.map_append]; exact HUP2.out)
                go_wp2_with fail
                exact ⟨⟨k + 1, _, _, _, _, _, _, by omega, rfl, HDL.out, HUP3.out, HCL.out, HWD.out, HG1.out, HNQ.out, HBL.out⟩, by simp only [intOf]; omega⟩
            case pos =>
              have y0 : (0 : Int) ≤ (c : Int) := by omega
              have y1 : (c : Int) < (wid : Int) := by omega
              obtain ⟨bt, hbt, hbl⟩ := firstB_lt N.sets c (by have h1 := HWID.out; unfold widN at h1; omega)
              have HBY : Hid (∀ X', Calls Try.prog 29 #[.agg (arrC D.cl), .int .i64 (c : Int)] X' fun e w' => ∃ v, e = .returned v ∧ w'.ownsRow X'.heap.size 5 1 v (firstB N.sets c :: bt).length (vals (firstB N.sets c :: bt)) ∧ Below X'.heap.size X' w') := Lib.hid fun X' => by rw [HCL.out, ← hbt]; exact bytes_any (clsL N.sets) (fun i hi => by have h1 := cls_lt (sigL N.sets) hi; have h2 := cnt_le (sigL N.sets) 256; unfold clsL; omega) (c : Int) X'
              obtain ⟨b, hb⟩ : ∃ q, firstB N.sets c = q := ⟨_, rfl⟩
              have HTO : Hid (toL N xx k c = if k = 0 then startL N b else stepL N xx b) := Lib.hid (by unfold toL; rw [hb])
              have HTN : Hid (∀ z ∈ toL N xx k c, 0 ≤ z ∧ z < 9223372036854775808) := Lib.hid (toL_num (by have := HLS.out; omega))
              have HTL : Hid ((toL N xx k c).length ≤ 100000) := Lib.hid (by have := toL_len N xx k c; have := HLS.out; omega)
              rw [hb] at HBY hbl
              clear hbt hb
              go_wp2_with (refine wpList_load_dcl rfl _ rfl X D rfl HDXq.out ?_)
              refine (HBY.out _).mono ?_
              rintro e w3 ⟨vb, rfl, hob, hb3⟩
              obtain ⟨Ab, cb, rfl, _, _⟩ := own_form hob
              obtain ⟨gb, rfl, hgb1, hgb2, hgb3⟩ := own_at hob (by simp)
              have cb0 := hgb3 0 (.int .u8 (b : Int)) rfl
              have HDQ3 := Lib.hid (HDQ.out.below hb3)
              have hg3 : X + 1 ≤ w3.heap.size := HDQ3.out.db.le
              obtain ⟨lb3, hlb3⟩ : ∃ q, (b :: bt).length = q := ⟨_, rfl⟩
              have hpos : (0 : Int) < (lb3 : Int) := by rw [← hlb3]; simp
              rw [hlb3]
              have HBX3 := Lib.hid (HBQ.out.trans (hb3.mono (by omega)))
              have HX3 := Lib.hid ((HBX3.out.block g (by omega)).trans HX6.out)
              obtain ⟨n0, n1, n2, n3, n4⟩ := netC (W := w3) (g := g) (v := v) HX3.out
              obtain ⟨b2, off2, A2, c2, xx', rfl, hb2, hx', d2, hr2⟩ := HDQ3.out.db.at_ hkos
              obtain rfl : xx = xx' := Option.some.inj (HXK'.out.symm.trans hx')
              have HWX : Hid (∀ X', Below w3.heap.size w3 X' → Below w.heap.size w X') := Lib.hid fun X' hX => by rw [HG.out]; exact (HGT.out.trans (HBX3.out.mono (by omega))).trans (hX.mono (by omega))
              have HST : Hid (∀ X', Onto w3.drew X' → Calls Try.prog 31 #[.agg (netA v), .slice A2 xx.length c2, .int .u8 (b : Int)] X' (Giv 3 1 intC X' (stepL N xx b))) := Lib.hid fun X' hX => fstep_any X' v N A2 xx.length c2 xx b hbl (HV.out.below (HWX.out X' (onto_drew hX))) (HFC.out.below (HWX.out X' (onto_drew hX))) (hr2.below (onto_drew hX)) hs
              have HSA := Lib.hid (fstart_any w3 v N b hbl (HV.out.below (HWX.out w3 (Below.refl _ _))) hrn)
              obtain ⟨xl, hxl⟩ : ∃ q, xx.length = q := ⟨_, rfl⟩
              rw [hxl] at d2 HST
              obtain ⟨ol, hol⟩ : ∃ q, os'.length = q := ⟨_, rfl⟩
              have HOL := Lib.hid hol
              have cA3 : w3.cell? ⟨XA, 0, none⟩ = some (.slice (some ⟨b2, off2, none⟩) ol fc2) := by rw [← hol, cell_of_row w3 XA 0 _ _ _ HDQ3.out.all_]; rfl
              clear hob hb3 hgb3 hlb3 hx' hr2 hgb1 hxl
              have hkol : (k : Int) < (ol : Int) := by omega
              clear hol
              go_upto_if 60 with (fail)
              go_cut [14, 50] from 50 to 86 (fun s14 s50 wc => ∃ (fv5 : Value) (os5 : List (Sl Int)) (rest5 : List RowD) (z : Int), s14 = .int .u8 (b : Int) ∧ s50 = .int .i64 (c : Int) ∧ PB (X + 1) X XA (XA + 1) mb wc D fv5 os5 nx lb (.slice (some ⟨gr, 0, none⟩) wid wid) ((r ++ [z]) ++ List.replicate (wid - (c + 1)) 0) rest5 ∧ putF (os'.map Sl.xs) (toL N xx k c) = os5.map Sl.xs ∧ atF (os'.map Sl.xs) (toL N xx k c) = z ∧ (∀ o ∈ os5, ∀ z ∈ o.xs, 0 ≤ z ∧ z < 9223372036854775808) ∧ os5.length ≤ M + 1 ∧ Below X W6 wc)
              case first =>
                by_cases hk0 : k = 0
                case pos =>
                  have t0 : ((k : Int) == 0) = true := by rw [hk0]; rfl
                  have HTT0 : Hid (toL N xx k c = startL N b) := Lib.hid (by rw [HTO.out, if_pos hk0])
                  clear hk0
                  go_wp2_with fail
                  refine HSA.out.mono ?_
                  rintro e w4 ⟨At, ct, rfl, hot, hb4⟩
                  obtain ⟨ts, hts⟩ : ∃ q, startL N b = q := ⟨_, rfl⟩
                  have HTT : Hid (toL N xx k c = ts) := Lib.hid (by rw [HTT0.out, hts])
                  rw [hts] at hot ⊢
                  obtain ⟨tn, htn⟩ : ∃ q, ts.length = q := ⟨_, rfl⟩
                  have hdt := HDQ3.out.add hb4 (q := inn ⟨At, tn, ct, ts⟩) rfl (by rw [← htn]; exact hot)
                  have HNM := Lib.hid (bnum_any w4 W6 (X + 1) X XA (XA + 1) mb D _ os' nx lb _ _ _ At tn ct ts hdt (List.mem_append_right _ (.head _)) htn.symm (by rw [← HTT.out]; exact HTN.out) HNQ.out (by rw [← HTT.out]; exact HTL.out) (by omega) (HBX3.out.trans (hb4.mono (by omega))))
                  rw [htn]
                  clear hdt hot hb4 hts htn n0 n1 n2 n3 n4 d2 cA3 cb0 HSA
                  go_wp2_with fail
                  refine HNM.out.mono ?_
                  rintro e w5 ⟨rfl, fv5, os5, hpb, hput, hmem, hbw5⟩
                  clear HNM
                  have HNU5 : Hid (∀ o ∈ os5, ∀ z ∈ o.xs, 0 ≤ z ∧ z < 9223372036854775808) := Lib.hid fun o ho z hz => by rcases hmem o ho with h1 | h1; exact HNQ.out o h1 z hz; rw [h1] at hz; exact HTN.out z (by rw [HTT.out]; exact hz)
                  have HPB5 := Lib.hid hpb
                  have HPU := Lib.hid hput
                  have HB5 := Lib.hid hbw5
                  have HLN : Hid (os5.length ≤ M + 1) := Lib.hid (by have h1 := (putF_pre (os'.map Sl.xs) ts).1; rw [← hput, List.length_map, List.length_map] at h1; omega)
                  obtain ⟨cC, fC⟩ := hpb.cell_c (by omega)
                  rw [hrlen] at cC fC
                  have hgr5 : gr < w5.heap.size := ((hpb.db.own.2.2.2).lt gr rfl).2
                  clear hpb hput hmem hbw5
                  go_wp2_with fail
                  go_meet
                  have HPB6 := HPB5.out.set_c c (atF (os'.map Sl.xs) ts)
                  rw [show wid - c = (wid - (c + 1)) + 1 by omega] at HPB6
                  have hsp := set_pad r (atF (os'.map Sl.xs) ts) (wid - (c + 1))
                  rw [hrlen] at hsp
                  rw [hsp] at HPB6
                  exact ⟨_, os5, _, _, rfl, rfl, HPB6, by rw [HTT.out]; exact HPU.out.symm, by rw [HTT.out], HNU5.out, HLN.out, HB5.out.setCell (p := ⟨gr, c, none⟩) (by show X ≤ gr; omega) _⟩
                case neg =>
                  have t0 : ((k : Int) == 0) = false := by rw [beq_eq_false_iff_ne]; omega
                  have HTT0 : Hid (toL N xx k c = stepL N xx b) := Lib.hid (by rw [HTO.out, if_neg hk0])
                  clear hk0
                  obtain ⟨ts, hts⟩ : ∃ q, stepL N xx b = q := ⟨_, rfl⟩
                  have HTT : Hid (toL N xx k c = ts) := Lib.hid (by rw [HTT0.out, hts])
                  rw [hts] at HST
                  clear hts
                  go_wp2_with fail
                  refine wp_region_start 13 #[false, false, false, false, false, false, false, false, false, false, false, false, false] rfl rfl rfl ?_
                  refine wpAny_take (i := 0) (v := .slice (some ⟨gr, 0, none⟩) wid wid) rfl (by kernel_rfl) (by kernel_rfl) (by kernel_rfl) (fun _ _ _ h => h) (Or.inl ⟨by rfl, fun X => ?_⟩) ?_
                  · go_simp
                  try simp only [Act.put, List.getElem_toArray, List.getElem_cons_succ, List.getElem_cons_zero, List.setIfInBounds_toArray, List.set_cons_zero, List.set_cons_succ]
                  refine wpAny_take (i := 1) (v := .int .i64 (c : Int)) rfl (by kernel_rfl) (by kernel_rfl) (by kernel_rfl) (fun _ _ _ h => h) (Or.inl ⟨by rfl, fun X => ?_⟩) ?_
                  · go_simp
                  try simp only [Act.put, List.getElem_toArray, List.getElem_cons_succ, List.getElem_cons_zero, List.setIfInBounds_toArray, List.set_cons_zero, List.set_cons_succ]
                  refine wpAny_fam_tailQ_lit (E := Onto) 10 3 8
                    [isV (.slice (some ⟨gr, 0, none⟩) wid wid),
                     isV (.int .i64 (c : Int)),
                     isV (.func (.func 27) #[] #[.pointer (some ⟨XA + 1, 0, none⟩), .pointer (some ⟨XA, 0, none⟩)]),
                     isV (.agg (netA v)),
                     isV (.slice (some ⟨b2, off2, none⟩) ol fc2),
                     isV (.int .i64 (k : Int)),
                     isV (.pointer (some ⟨b2, off2 + k, none⟩)),
                     isV (.slice A2 xl c2),
                     isV (.int .u8 (b : Int)),
                     gvI w3.heap.size ts]
                    [some 69, some 70, some 71, some 72, some 73, some 74, some 75, some 76, some 77, some 78] [] [0, 1] [(0, 69), (1, 70)] #[true, true, false, false, false, false, false, false, false, false, false, false, false] #[true, true, true, true, true, true, true, true, true, true, false, false, false]
                    rfl (by kernel_rfl) (by kernel_rfl) (by kernel_rfl) rfl (by kernel_rfl) rfl (by kernel_rfl) (by kernel_rfl) (by kernel_rfl) (by kernel_rfl) (by kernel_rfl) rfl Onto.trans Onto.refl ?monoS ?yS ?obS ?qS (fun q hq => by cases hq)
                  case monoS => exact ⟨isV_mono _ _, isV_mono _ _, isV_mono _ _, isV_mono _ _, isV_mono _ _, isV_mono _ _, isV_mono _ _, isV_mono _ _, isV_mono _ _, gvI_mono _ _, trivial⟩
                  case yS =>
                    intro p hp
                    simp only [List.mem_cons, List.not_mem_nil, or_false] at hp
                    rcases hp with rfl | rfl <;> rfl
                  case obS =>
                    refine Obs.cons (j := 1) rfl ?_ ?_
                    · refine Ob.free [(12, none)] (by kernel_rfl) (isV (.slice (some ⟨gr, 0, none⟩) wid wid)) rfl rfl (fun a X hE hL => ?_)
                      simp [Seen, slotAt] at hL
                      have h12 := hL
                      rw [relAt_eq]
                      go_simp
                      exact ⟨Onto.refl _, rfl⟩
                    refine Obs.cons (j := 2) rfl ?_ ?_
                    · refine Ob.free [(13, none)] (by kernel_rfl) (isV (.int .i64 (c : Int))) rfl rfl (fun a X hE hL => ?_)
                      simp [Seen, slotAt] at hL
                      have h13 := hL
                      rw [relAt_eq]
                      go_simp
                      exact ⟨Onto.refl _, rfl⟩
                    refine Obs.cons (j := 3) rfl ?_ ?_
                    · refine Ob.free [(10, none)] (by kernel_rfl) (isV (.func (.func 27) #[] #[.pointer (some ⟨XA + 1, 0, none⟩), .pointer (some ⟨XA, 0, none⟩)])) rfl rfl (fun a X hE hL => ?_)
                      simp [Seen, slotAt] at hL
                      have h10 := hL
                      rw [relAt_eq]
                      go_simp
                      exact ⟨Onto.refl _, rfl⟩
                    refine Obs.cons (j := 4) rfl ?_ ?_
                    · refine Ob.free [(2, none)] (by kernel_rfl) (isV (.agg (netA v))) rfl rfl (fun a X hE hL => ?_)
                      simp [Seen, slotAt] at hL
                      have h2 := hL
                      rw [relAt_eq]
                      have f0 := keeps hE _ _ n0; have f1 := keeps hE _ _ n1; have f2 := keeps hE _ _ n2; have f3 := keeps hE _ _ n3; have f4 := keeps hE _ _ n4
                      go_simp
                      exact ⟨Onto.refl _, rfl⟩
                    refine Obs.cons (j := 5) rfl ?_ ?_
                    · refine Ob.free [(8, none)] (by kernel_rfl) (isV (.slice (some ⟨b2, off2, none⟩) ol fc2)) rfl rfl (fun a X hE hL => ?_)
                      simp [Seen, slotAt] at hL
                      have h8 := hL
                      rw [relAt_eq]
                      have f0 := keeps hE _ _ cA3
                      go_simp
                      exact ⟨Onto.refl _, rfl⟩
                    refine Obs.cons (j := 6) rfl ?_ ?_
                    · refine Ob.free [(11, none)] (by kernel_rfl) (isV (.int .i64 (k : Int))) rfl rfl (fun a X hE hL => ?_)
                      simp [Seen, slotAt] at hL
                      have h11 := hL
                      rw [relAt_eq]
                      go_simp
                      exact ⟨Onto.refl _, rfl⟩
                    refine Obs.cons (j := 7) rfl ?_ ?_
                    · refine Ob.free [(73, some 4), (74, some 5)] (by kernel_rfl) (isV (.pointer (some ⟨b2, off2 + k, none⟩))) rfl rfl (fun a X hE hL => ?_)
                      simp [Seen, slotAt, famV, isV] at hL
                      obtain ⟨h73, h74⟩ := hL
                      rw [relAt_eq]
                      go_simp
                      exact ⟨Onto.refl _, rfl⟩
                    refine Obs.cons (j := 8) rfl ?_ ?_
                    · refine Ob.free [(75, some 6)] (by kernel_rfl) (isV (.slice A2 xl c2)) rfl rfl (fun a X hE hL => ?_)
                      simp [Seen, slotAt, famV, isV] at hL
                      have h75 := hL
                      rw [relAt_eq]
                      have f0 := keeps hE _ _ d2
                      go_simp
                      exact ⟨Onto.refl _, rfl⟩
                    refine Obs.cons (j := 9) rfl ?_ ?_
                    · refine Ob.free [(14, none)] (by kernel_rfl) (isV (.int .u8 (b : Int))) rfl rfl (fun a X hE hL => ?_)
                      simp [Seen, slotAt] at hL
                      have h14 := hL
                      rw [relAt_eq]
                      go_simp
                      exact ⟨Onto.refl _, rfl⟩
                    refine Obs.cons (j := 10) rfl ?_ ?_
                    · refine Ob.free [(72, some 3), (76, some 7), (77, some 8)] (by kernel_rfl) (gvI w3.heap.size ts) rfl rfl (fun a X hE hL => ?_)
                      simp [Seen, slotAt, famV, isV] at hL
                      obtain ⟨h72, h76, h77⟩ := hL
                      rw [relAt_eq]
                      go_simp
                      rw [relUpon_enter]
                      go_at_call 31
                      refine (HST.out X hE).mono ?_
                      rintro e Y ⟨A, c, rfl, ho, hY⟩
                      exact ⟨_, rfl, hY, A, c, rfl, own_mono ho (onto_drew hE).size⟩
                    exact trivial
                  case qS =>
                    intro x wt hE hV
                    simp [AllV, famV, isV] at hV
                    obtain ⟨h69, h70, h71, -, -, -, -, -, -, h78⟩ := hV
                    simp only [puts, Act.put, List.setIfInBounds_toArray, List.set_cons_zero, List.set_cons_succ, h69, h70, h71]
                    generalize x 72 = y72
                    generalize x 73 = y73
                    generalize x 74 = y74
                    generalize x 75 = y75
                    generalize x 76 = y76
                    generalize x 77 = y77
                    generalize x 78 = y78 at h78 ⊢
                    clear h69 h70 h71
                    have hbt := onto_drew hE
                    obtain ⟨At, ct, rfl, hot⟩ := h78
                    obtain ⟨tn, htn⟩ : ∃ q, ts.length = q := ⟨_, rfl⟩
                    have hdt := HDQ3.out.add hbt (q := inn ⟨At, tn, ct, ts⟩) rfl (by rw [← htn]; exact hot)
                    have HNM := Lib.hid (bnum_any wt W6 (X + 1) X XA (XA + 1) mb D _ os' nx lb _ _ _ At tn ct ts hdt (List.mem_append_right _ (.head _)) htn.symm (by rw [← HTT.out]; exact HTN.out) HNQ.out (by rw [← HTT.out]; exact HTL.out) (by omega) (HBX3.out.trans (hbt.mono (by omega))))
                    rw [htn]
                    clear hdt hot hbt htn hE n0 n1 n2 n3 n4 d2 cA3 cb0 HSA HST
                    refine wpAny_ready (rs := [10]) (by kernel_rfl) (by simp) ?_
                    refine AllReady.cons rfl (fun K hK => ?_) AllReady.nil
                    rw [if_pos (by rfl)]
                    refine relAt.wp (E := fun _ _ => True) (R := fun u w' => u = .int .i64 (atF (os'.map Sl.xs) ts) ∧ ∃ fv' os'', PB (X + 1) X XA (XA + 1) mb w' D fv' os'' nx lb (.slice (some ⟨gr, 0, none⟩) wid wid) (r ++ List.replicate (wid - c) 0) (rest' ++ [inn ⟨At, tn, ct, ts⟩]) ∧ os''.map Sl.xs = putF (os'.map Sl.xs) ts ∧ (∀ o ∈ os'', o ∈ os' ∨ o.xs = ts) ∧ Below X W6 w') ?num (fun u w5 _ hR => ?_)
                    case num =>
                      rw [relAt_eq]
                      go_simp
                      rw [relUpon_enter]
                      go_at_call 27
                      refine HNM.out.mono ?_
                      rintro e Y ⟨rfl, fv', os'', h1, h2, h3, h4⟩
                      exact ⟨_, rfl, trivial, rfl, fv', os'', h1, h2, h3, h4⟩
                    obtain ⟨rfl, fv5, os5, hpb, hput, hmem, hbw5⟩ := hR
                    clear HNM
                    refine hK _ _ ?_
                    clear hK K
                    try simp only [Act.put, List.getElem_toArray, List.getElem_cons_succ, List.getElem_cons_zero, List.setIfInBounds_toArray, List.set_cons_zero, List.set_cons_succ]
                    have HNU5 : Hid (∀ o ∈ os5, ∀ z ∈ o.xs, 0 ≤ z ∧ z < 9223372036854775808) := Lib.hid fun o ho z hz => by rcases hmem o ho with h1 | h1; exact HNQ.out o h1 z hz; rw [h1] at hz; exact HTN.out z (by rw [HTT.out]; exact hz)
                    have HPB5 := Lib.hid hpb
                    have HPU := Lib.hid hput
                    have HB5 := Lib.hid hbw5
                    have HLN : Hid (os5.length ≤ M + 1) := Lib.hid (by have h1 := (putF_pre (os'.map Sl.xs) ts).1; rw [← hput, List.length_map, List.length_map] at h1; omega)
                    obtain ⟨cC, fC⟩ := hpb.cell_c (by omega)
                    rw [hrlen] at cC fC
                    have hgr5 : gr < w5.heap.size := ((hpb.db.own.2.2.2).lt gr rfl).2
                    clear hpb hput hmem hbw5
                    refine wpAny_take (i := 11) (v := .pointer (some ⟨gr, c, none⟩)) rfl (by kernel_rfl) (by kernel_rfl) (by kernel_rfl) (fun _ _ _ h => h) (Or.inl ⟨by rfl, fun X => ?_⟩) ?_
                    · go_simp
                    try simp only [Act.put, List.getElem_toArray, List.getElem_cons_succ, List.getElem_cons_zero, List.setIfInBounds_toArray, List.set_cons_zero, List.set_cons_succ]
                    refine wpAny_ready (rs := [12]) (by kernel_rfl) (by simp) ?_
                    refine AllReady.cons rfl (fun K hK => ?_) AllReady.nil
                    rw [if_pos (by rfl)]
                    go_simp
                    refine hK _ _ ?_
                    clear hK K
                    try simp only [Act.put, List.getElem_toArray, List.getElem_cons_succ, List.getElem_cons_zero, List.setIfInBounds_toArray, List.set_cons_zero, List.set_cons_succ]
                    refine wpAny_done (by kernel_rfl) ?_ _
                    go_wp2_with fail
                    go_meet
                    have HPB6 := HPB5.out.set_c c (atF (os'.map Sl.xs) ts)
                    rw [show wid - c = (wid - (c + 1)) + 1 by omega] at HPB6
                    have hsp := set_pad r (atF (os'.map Sl.xs) ts) (wid - (c + 1))
                    rw [hrlen] at hsp
                    rw [hsp] at HPB6
                    exact ⟨_, os5, _, _, rfl, rfl, HPB6, by rw [HTT.out]; exact HPU.out.symm, by rw [HTT.out], HNU5.out, HLN.out, HB5.out.setCell (p := ⟨gr, c, none⟩) (by show X ≤ gr; omega) _⟩
              case rest =>
                clear HSA HST HTO HWX n0 n1 n2 n3 n4 d2 cA3 cb0 HOL hkol
                obtain ⟨fv5, os5, rest5, z, rfl, rfl, hpb, hp1, hp2, hn5, hl5, hb5⟩ := hcut
                obtain ⟨fa5, fc5, rfl, _, _⟩ := own_form hpb.db.own.1
                obtain ⟨ol2, hol2⟩ : ∃ q, os5.length = q := ⟨_, rfl⟩
                have HOL2 := Lib.hid hol2
                have HD5 := Lib.hid hpb
                have HPF := Lib.hid (⟨hp1, hp2⟩ : _ ∧ _)
                have HN5 := Lib.hid hn5
                have HBX5 := Lib.hid hb5
                have HDg5 := Lib.hid (HD26.out.below hb5 (by omega))
                have cA5 : wc.cell? ⟨XA, 0, none⟩ = some (.slice fa5 ol2 fc5) := by rw [← hol2, cell_of_row wc XA 0 _ _ _ hpb.all_]; rfl
                rw [hol2] at hl5
                clear hpb hp1 hp2 hn5 hb5 hol2
                by_cases hM4 : M < ol2
                case pos =>
                  have t3 : (M : Int) < (ol2 : Int) := by omega
                  have HFAIL : Hid (buildR N (M : Int) = (ms0, 0, 16)) := Lib.hid (by rw [HE.out, outer_fail HUP.out HXK.out (c := c + 1) (by rw [HWID.out]; omega) (inner_fail HIN.out rfl HPF.out (by rw [List.length_map, HOL2.out]; exact hM4)) (by omega)]; rfl)
                  go_wp2_with (refine wpList_store_dfa rfl _ _ rfl (g + 1) zeroD zeroD rfl zv_dfa HDg5.out ?_; intro w9 hD9 hB9 hO9 hS9)
                  refine bodyPost_ret (results_dfa2 rfl _ _ (g + 1) zeroD _ _ rfl rfl rfl hD9) rfl ?_
                  rw [HFAIL.out]
                  exact ⟨zeroD, rfl, mat0 _, by first | exact (HGT.out.trans (HBX5.out.mono (by omega))).trans (hB9 g (by omega)) | (rw [HG.out]; exact (HGT.out.trans (HBX5.out.mono (by omega))).trans (hB9 g (by omega)))⟩
                case neg =>
                  have t3 : ¬ ((M : Int) < (ol2 : Int)) := by omega
                  have HP := Lib.hid (inner_next HIN.out rfl HPF.out (by rw [List.length_map, HOL2.out]; omega))
                  go_wp2_with fail
                  go_roundg (wid - (c + 1))
                  case measure => omega
                  case rel => exact ⟨c + 1, _, _, _, _, by omega, rfl, HD5.out, HP.out, HN5.out, HBX5.out⟩
theorem dbuild_any (w : World) (v : Nv) (N : NetS) (most : Int) (hv : NetAt w v N) (hfc : FCap w v.fa v.fn) (hs : v.sn ≤ 1000) (hrn : v.rn ≤ 100000) :
    Calls Try.prog 9 #[.agg (netA v), .int .i64 most] w fun e w' => ∃ D, e = .returned (.tuple #[.agg (dfA D), .int .i64 (buildR N most).2.1, .int .i64 (buildR N most).2.2]) ∧ MAt w' D (buildR N most).1 ∧ Below w.heap.size w w' :=
  dbuild_if w v N most hv hfc fun _ => ⟨hs, hrn⟩
end Go.Proofs.Ytmkgipoljbiocaa
/- Where a machine goes, and its labels: the program's; one step of it. -/
namespace Go.Proofs.Ytmkgipoljbiocaa
open Go.RowKit Go.Sort Go.PlainAid
set_option linter.unusedVariables false
set_option linter.unusedSimpArgs false
/-- One step, asked from outside. -/
def goQ (M : MS) (z : Int) (b : Nat) : Int := if rightM M = true ∧ 0 ≤ z ∧ z < (M.nx.length : Int) then goM M z b else -1
attribute [local go_sem ↓] loadA_eq storeA_eq loadD_eq
set_option maxHeartbeats 4000000 in
set_option maxRecDepth 100000 in
theorem drun_any (w : World) (D : Df) (M : MS) (s : ByteArray) (h : MAt w D M) (hC : ∀ i, i < 256 → M.cl i < 256) (hs : s.size ≤ 100000) :
    Calls Try.prog 16 #[.agg (dfA D), .string s] w fun e w' => e = .returned (.int .i64 (runM M (LS s))) ∧ Below w.heap.size w w' := by
  obtain ⟨r, hr⟩ : ∃ r, runM M (LS s) = r := ⟨_, rfl⟩
  have HR := Lib.hid hr
  have HSL := Lib.hid (LS_len s)
  have HLN := Lib.hid h.nx.len.1
  have hnm := h.nx.len.2
  have HM := Lib.hid h
  have HCL := Lib.hid h.cl
  have HCC := Lib.hid hC
  rw [hr]
  obtain ⟨g, hg⟩ : ∃ g, w.heap.size = g := ⟨_, rfl⟩
  have HG := Lib.hid hg
  obtain ⟨W1, hW1, hs1, hb1, hd1⟩ := box_dfa hg D
  have HRM := Lib.hid (dright_any W1 D M (h.below (by rw [hg]; exact hb1)) hC)
  obtain ⟨q, hq⟩ : ∃ q, rightM M = q := ⟨_, rfl⟩
  rw [hq] at HRM
  have HQ := Lib.hid hq
  have HW1 := Lib.hid hW1
  have HB1 := Lib.hid hb1
  have HS1 := Lib.hid hs1
  have HD1 := Lib.hid hd1
  have hld := run_loadD W1 g D hd1
  rw [hW1] at hld
  clear hr h hW1 hs1 hb1 hd1 hq hC
  go_enter Try.func16, Try.ntmps16
  go_wp2_with fail
  rw [← HW1.out]
  refine HRM.out.mono ?_
  rintro e w2 ⟨rfl, hb2⟩
  have HB2 : Hid (Below g w w2) := Lib.hid (HB1.out.trans (hb2.mono (by have := HS1.out; omega)))
  have HD2 := Lib.hid (HD1.out.below hb2 HD1.out.lt)
  have hs2 : g + 1 ≤ w2.heap.size := by have := hb2.size; have := HS1.out; omega
  clear hb2 hld
  cases q with
  | false =>
    have HE : Hid (r = -1) := Lib.hid (by rw [← HR.out]; unfold runM; rw [HQ.out]; rfl)
    go_wp2
    go_ret
    exact ⟨ret_int HE.out.symm, by first | exact HB2.out | (rw [HG.out]; exact HB2.out)⟩
  | true =>
    have HE : Hid (r = goL M 0 (LS s)) := Lib.hid (by rw [← HR.out]; unfold runM; rw [HQ.out]; rfl)
    go_wp2
    go_loopw [5, 6] (fun u i wr => ∃ k m : Nat, k ≤ s.size ∧ i = .int .i64 (k : Int) ∧ u = .int .i64 (goL M 0 ((LS s).take k)) ∧ wr = w2.drewN m) (fun _ i _ => s.size - (intOf i).toNat)
    case atStart => exact ⟨0, 0, by omega, rfl, rfl, rfl⟩
    case round =>
      obtain ⟨k, m, hk, rfl, rfl, hwr⟩ := hrel
      have HWR := Lib.hid hwr
      have hbm : Below w2.heap.size w2 wr := by rw [hwr]; exact below_drewN w2 m
      have hdw := HD2.out.below hbm HD2.out.lt
      have HDW := Lib.hid hdw
      have f257 := hdw.nx
      have HBWR : Hid (Below g w wr) := Lib.hid (HB2.out.trans (hbm.mono (by omega)))
      have hgl : g + 1 ≤ wr.heap.size := by have := hbm.size; omega
      have HMW := Lib.hid (HM.out.below (w' := wr) (by rw [HG.out]; exact HBWR.out))
      have hrg := goL_range HQ.out ((LS s).take k)
      rw [HLN.out] at hrg
      clear hwr hbm hdw
      by_cases hlt : k < s.size
      case neg =>
        have hk2 : k = s.size := by omega
        have HF : Hid (goL M 0 ((LS s).take k) = r) := Lib.hid (by rw [HE.out, List.take_of_length_le (by rw [HSL.out]; omega)])
        rw [HF.out] at hrg ⊢
        have z1 : decide (k < s.size) = false := decide_eq_false hlt
        clear hk2
        by_cases hr0 : 0 ≤ r
        · go_wp2
          go_ret
          exact ⟨rfl, by first | exact HBWR.out | (rw [HG.out]; exact HBWR.out)⟩
        · go_wp2
          go_ret
          exact ⟨rfl, by first | exact HBWR.out | (rw [HG.out]; exact HBWR.out)⟩
      case pos =>
        have z0 : (0 : Int) ≤ (k : Int) := by omega
        have z1 : (k : Int) < (s.size : Int) := by omega
        have z2 : decide (k < s.size) = true := decide_eq_true hlt
        have HTK : Hid (goL M 0 ((LS s).take (k + 1)) = goM M (goL M 0 ((LS s).take k)) (s[k]'hlt).toNat) := Lib.hid (by rw [take_snoc (LS_at s k hlt), goL_snoc])
        obtain ⟨z, hz⟩ : ∃ z, goL M 0 ((LS s).take k) = z := ⟨_, rfl⟩
        rw [hz] at hrg HTK ⊢
        by_cases hz0 : z < 0
        · have HF : Hid (z = r) := Lib.hid (by
            rw [HE.out, ← hz]
            have h1 := goL_app M 0 ((LS s).take k) ((LS s).drop k)
            rw [List.take_append_drop, hz, goL_neg hz0] at h1
            rw [h1, hz])
          have z3 : ¬ 0 ≤ z := by omega
          clear hz
          go_wp2
          go_ret
          exact ⟨ret_int HF.out, by first | exact HBWR.out | (rw [HG.out]; exact HBWR.out)⟩
        · obtain ⟨i, rfl⟩ : ∃ i : Nat, z = (i : Int) := ⟨z.toNat, by omega⟩
          have hb256 : (s[k]'hlt).toNat < 256 := (s[k]'hlt).toNat_lt
          obtain ⟨b, hb⟩ : ∃ b : Nat, (s[k]'hlt).toNat = b := ⟨_, rfl⟩
          have hbI : ((s[k]'hlt).toNat : Int) = (b : Int) := by rw [hb]
          rw [hb] at HTK hb256
          obtain ⟨row, y, h1, h2, h3, h4, h5⟩ := right_row HQ.out (i := i) (by rw [HLN.out]; omega) hb256
          have HNE : Hid (goL M 0 ((LS s).take (k + 1)) = y) := Lib.hid (by rw [HTK.out]; exact goM_at h1 h3)
          obtain ⟨b3, off3, l3, ha3, hbl3, hl3, A3, cc3, d3, hr3⟩ := HMW.out.nx.at_ (i := i) (by omega)
          rw [h1] at hl3
          obtain rfl := Option.some.inj hl3
          have hcb : M.cl b < row.length := (List.getElem?_eq_some_iff.1 h3).1
          obtain ⟨b4, off4, y', rfl, hbl4, hy, dy⟩ := hr3.int hcb
          rw [h3] at hy
          obtain rfl := Option.some.inj hy
          have c0 := HDW.out.cl b hb256
          rw [HCL.out] at c0
          have hc2 := HCC.out b hb256
          rw [ha3] at f257
          obtain ⟨cb, hcbE⟩ : ∃ c, M.cl b = c := ⟨_, rfl⟩
          rw [hcbE] at c0 dy hcb hc2
          have y1 : (i : Int) < (D.nl : Int) := by omega
          have y2 : (0 : Int) ≤ (i : Int) := by omega
          have y3 : (cb : Int) < (row.length : Int) := by omega
          have y4 : (0 : Int) ≤ (cb : Int) := by omega
          have y5 : (b : Int) < 256 := by omega
          have y6 : (0 : Int) ≤ (b : Int) := by omega
          have y7 : decide ((0 : Int) ≤ (i : Int)) = true := decide_eq_true y2
          have HWN : Hid (∀ n, wr.drewN n = w2.drewN (m + n)) := Lib.hid fun n => by rw [HWR.out]; simp [World.drewN, Nat.add_assoc]
          clear h1 h2 h3 ha3 hcbE hz hr3 hl3 hy hb
          go_wp2
          go_quiet (fail)
          go_wp2
          go_roundw
          case rel => exact ⟨k + 1, _, by omega, by go_num, by rw [HNE.out], HWN.out _⟩
          case measure => simp [intOf]; omega
set_option maxHeartbeats 4000000 in
set_option maxRecDepth 100000 in
theorem dlabel_any (w : World) (D : Df) (M : MS) (z : Int) (h : MAt w D M) (hC : ∀ i, i < 256 → M.cl i < 256) :
    Calls Try.prog 17 #[.agg (dfA D), .int .i64 z] w fun e w' => e = .returned (.int .i64 (labM M z)) ∧ Below w.heap.size w w' := by
  obtain ⟨r, hr⟩ : ∃ r, labM M z = r := ⟨_, rfl⟩
  have HR := Lib.hid hr
  have HLL := Lib.hid h.lb.1
  have hln := h.nx.len
  have HLN := Lib.hid hln.1
  have hnm := hln.2
  have hlm := h.lb.2.1
  have HM := Lib.hid h
  have HCL := Lib.hid h.cl
  have HCC := Lib.hid hC
  rw [hr]
  obtain ⟨g, hg⟩ : ∃ g, w.heap.size = g := ⟨_, rfl⟩
  have HG := Lib.hid hg
  obtain ⟨W1, hW1, hs1, hb1, hd1⟩ := box_dfa hg D
  have HRM := Lib.hid (dright_any W1 D M (h.below (by rw [hg]; exact hb1)) hC)
  obtain ⟨q, hq⟩ : ∃ q, rightM M = q := ⟨_, rfl⟩
  rw [hq] at HRM
  have HQ := Lib.hid hq
  have HW1 := Lib.hid hW1
  have HB1 := Lib.hid hb1
  have HS1 := Lib.hid hs1
  have HD1 := Lib.hid hd1
  have hld := run_loadD W1 g D hd1
  have c257 := hd1.nx
  have c258 := hd1.lb
  rw [hW1] at hld c257 c258
  clear hr h hW1 hs1 hb1 hd1 hq hC hln
  have HBA : Hid (∀ o : Obj, Below g w (w.alloc o)) := Lib.hid fun o => by rw [← HG.out]; exact (Below.refl _ _).alloc (Nat.le_refl _) _
  go_enter Try.func17, Try.ntmps17
  by_cases hz : z < 0
  · have HE : Hid (r = -1) := Lib.hid (by rw [← HR.out]; unfold labM; rw [if_neg (by omega)])
    go_wp2
    go_ret
    exact ⟨ret_int HE.out.symm, by first | exact HBA.out _ | (rw [HG.out]; exact HBA.out _)⟩
  · by_cases hz2 : (D.ll : Int) ≤ z
    · have HE : Hid (r = -1) := Lib.hid (by
        rw [← HR.out]; unfold labM
        rw [List.getElem?_eq_none (by rw [HLL.out]; omega)]; split <;> rfl)
      go_wp2
      go_ret
      exact ⟨ret_int HE.out.symm, by first | exact HBA.out _ | (rw [HG.out]; exact HBA.out _)⟩
    · have z0 : (0 : Int) ≤ z := by omega
      have z9 : z < (D.ll : Int) := by omega
      go_wp2_with fail
      rw [← HW1.out]
      refine HRM.out.mono ?_
      rintro e w2 ⟨rfl, hb2⟩
      have HB2 : Hid (Below g w w2) := Lib.hid (HB1.out.trans (hb2.mono (by have := HS1.out; omega)))
      have hd2 := HD1.out.below hb2 HD1.out.lt
      have HD2 := Lib.hid hd2
      clear hb2 hld c257 c258
      have c258 := hd2.lb
      clear hd2
      cases q with
      | false =>
        have HE : Hid (r = -1) := Lib.hid (by rw [← HR.out]; unfold labM; rw [HQ.out]; simp)
        go_wp2
        go_ret
        exact ⟨ret_int HE.out.symm, by first | exact HB2.out | (rw [HG.out]; exact HB2.out)⟩
      | true =>
        obtain ⟨k, rfl⟩ : ∃ k : Nat, z = (k : Int) := ⟨z.toNat, by omega⟩
        obtain ⟨b1, off1, y, ha1, hbl1, hy, d1⟩ := (HM.out.lb.below (w' := w2) (by rw [HG.out]; exact HB2.out)).int (k := k) (by omega)
        have HE : Hid (r = y) := Lib.hid (by rw [← HR.out]; unfold labM; rw [if_pos ⟨HQ.out, by omega⟩, Int.toNat_natCast, hy]; rfl)
        rw [ha1] at c258
        clear hy ha1
        go_wp2
        go_ret
        exact ⟨ret_int HE.out.symm, by first | exact HB2.out | (rw [HG.out]; exact HB2.out)⟩
set_option maxHeartbeats 4000000 in
set_option maxRecDepth 100000 in
theorem dgo_any (w : World) (D : Df) (M : MS) (z : Int) (b : Nat) (hb : b < 256) (h : MAt w D M) (hC : ∀ i, i < 256 → M.cl i < 256) :
    Calls Try.prog 20 #[.agg (dfA D), .int .i64 z, .int .u8 (b : Int)] w fun e w' => e = .returned (.int .i64 (goQ M z b)) ∧ Below w.heap.size w w' := by
  obtain ⟨r, hr⟩ : ∃ r, goQ M z b = r := ⟨_, rfl⟩
  have HR := Lib.hid hr
  have HLL := Lib.hid h.lb.1
  have hln := h.nx.len
  have HLN := Lib.hid hln.1
  have hnm := hln.2
  have hlm := h.lb.2.1
  have HM := Lib.hid h
  have HCL := Lib.hid h.cl
  have HCC := Lib.hid hC
  rw [hr]
  obtain ⟨g, hg⟩ : ∃ g, w.heap.size = g := ⟨_, rfl⟩
  have HG := Lib.hid hg
  obtain ⟨W1, hW1, hs1, hb1, hd1⟩ := box_dfa hg D
  have HRM := Lib.hid (dright_any W1 D M (h.below (by rw [hg]; exact hb1)) hC)
  obtain ⟨q, hq⟩ : ∃ q, rightM M = q := ⟨_, rfl⟩
  rw [hq] at HRM
  have HQ := Lib.hid hq
  have HW1 := Lib.hid hW1
  have HB1 := Lib.hid hb1
  have HS1 := Lib.hid hs1
  have HD1 := Lib.hid hd1
  have hld := run_loadD W1 g D hd1
  have c257 := hd1.nx
  have c258 := hd1.lb
  rw [hW1] at hld c257 c258
  clear hr h hW1 hs1 hb1 hd1 hq hC hln
  have HBA : Hid (∀ o : Obj, Below g w (w.alloc o)) := Lib.hid fun o => by rw [← HG.out]; exact (Below.refl _ _).alloc (Nat.le_refl _) _
  go_enter Try.func20, Try.ntmps20
  by_cases hz : z < 0
  · have HE : Hid (r = -1) := Lib.hid (by rw [← HR.out]; unfold goQ; rw [if_neg (by omega)])
    go_wp2
    go_ret
    exact ⟨ret_int HE.out.symm, by first | exact HBA.out _ | (rw [HG.out]; exact HBA.out _)⟩
  · by_cases hz2 : (D.nl : Int) ≤ z
    · have HE : Hid (r = -1) := Lib.hid (by
        rw [← HR.out]; unfold goQ
        rw [if_neg (by rw [HLN.out]; omega)])
      go_wp2
      go_ret
      exact ⟨ret_int HE.out.symm, by first | exact HBA.out _ | (rw [HG.out]; exact HBA.out _)⟩
    · have z0 : (0 : Int) ≤ z := by omega
      have z9 : z < (D.nl : Int) := by omega
      go_wp2_with fail
      rw [← HW1.out]
      refine HRM.out.mono ?_
      rintro e w2 ⟨rfl, hb2⟩
      have HB2 : Hid (Below g w w2) := Lib.hid (HB1.out.trans (hb2.mono (by have := HS1.out; omega)))
      have hd2 := HD1.out.below hb2 HD1.out.lt
      have HD2 := Lib.hid hd2
      clear hb2 hld c257 c258
      have f257 := hd2.nx
      clear hd2
      cases q with
      | false =>
        have HE : Hid (r = -1) := Lib.hid (by rw [← HR.out]; unfold goQ; rw [HQ.out]; simp)
        go_wp2
        go_ret
        exact ⟨ret_int HE.out.symm, by first | exact HB2.out | (rw [HG.out]; exact HB2.out)⟩
      | true =>
        obtain ⟨i, rfl⟩ : ∃ k : Nat, z = (k : Int) := ⟨z.toNat, by omega⟩
        obtain ⟨row, y, h1, h2, h3, h4, h5⟩ := right_row HQ.out (i := i) (by rw [HLN.out]; omega) hb
        have HE : Hid (r = y) := Lib.hid (by rw [← HR.out]; unfold goQ; rw [if_pos ⟨HQ.out, by omega, by rw [HLN.out]; omega⟩]; exact goM_at h1 h3)
        obtain ⟨b3, off3, l3, ha3, hbl3, hl3, A3, cc3, d3, hr3⟩ := ((HM.out.below (w' := w2) (by rw [HG.out]; exact HB2.out)).nx).at_ (i := i) (by omega)
        rw [h1] at hl3
        obtain rfl := Option.some.inj hl3
        have hcb : M.cl b < row.length := (List.getElem?_eq_some_iff.1 h3).1
        obtain ⟨b4, off4, y', rfl, hbl4, hy, dy⟩ := hr3.int hcb
        rw [h3] at hy
        obtain rfl := Option.some.inj hy
        have c0 := HD2.out.cl b hb
        rw [HCL.out] at c0
        have hc2 := HCC.out b hb
        rw [ha3] at f257
        obtain ⟨cb, hcbE⟩ : ∃ c, M.cl b = c := ⟨_, rfl⟩
        rw [hcbE] at c0 dy hcb hc2
        have y1 : (i : Int) < (D.nl : Int) := by omega
        have y2 : (0 : Int) ≤ (i : Int) := by omega
        have y3 : (cb : Int) < (row.length : Int) := by omega
        have y4 : (0 : Int) ≤ (cb : Int) := by omega
        have y5 : (b : Int) < 256 := by omega
        have y6 : (0 : Int) ≤ (b : Int) := by omega
        clear h1 h2 h3 ha3 hcbE hr3 hl3 hy
        go_wp2
        go_quiet (fail)
        go_wp2
        go_ret
        have hgs : g ≤ w2.heap.size := by have := HB2.out.size; have := HG.out; omega
        exact ⟨ret_int HE.out.symm, by first | exact HB2.out.trans ((below_drewN w2 _).mono hgs) | (rw [HG.out]; exact HB2.out.trans ((below_drewN w2 _).mono hgs))⟩
set_option maxHeartbeats 4000000 in
set_option maxRecDepth 100000 in
theorem rgo_any (w : World) (D : Df) (M : MS) (z : Int) (b : Nat) (hb : b < 256) (h : MAt w D M) (hC : ∀ i, i < 256 → M.cl i < 256) :
    Calls Try.prog 21 #[.agg (dfA D), .int .i64 z, .int .u8 (b : Int)] w fun e w' => e = .returned (.int .i64 (goQ M z b)) ∧ Below w.heap.size w w' := by
  obtain ⟨r, hr⟩ : ∃ r, goQ M z b = r := ⟨_, rfl⟩
  have HR := Lib.hid hr
  have HLL := Lib.hid h.lb.1
  have hln := h.nx.len
  have HLN := Lib.hid hln.1
  have hnm := hln.2
  have hlm := h.lb.2.1
  have HM := Lib.hid h
  have HCL := Lib.hid h.cl
  have HCC := Lib.hid hC
  rw [hr]
  obtain ⟨g, hg⟩ : ∃ g, w.heap.size = g := ⟨_, rfl⟩
  have HG := Lib.hid hg
  obtain ⟨W1, hW1, hs1, hb1, hd1⟩ := box_dfa hg D
  have HRM := Lib.hid (rdright_any W1 D M (h.below (by rw [hg]; exact hb1)) hC)
  obtain ⟨q, hq⟩ : ∃ q, rightM M = q := ⟨_, rfl⟩
  rw [hq] at HRM
  have HQ := Lib.hid hq
  have HW1 := Lib.hid hW1
  have HB1 := Lib.hid hb1
  have HS1 := Lib.hid hs1
  have HD1 := Lib.hid hd1
  have hld := run_loadD W1 g D hd1
  have c257 := hd1.nx
  have c258 := hd1.lb
  rw [hW1] at hld c257 c258
  clear hr h hW1 hs1 hb1 hd1 hq hC hln
  have HBA : Hid (∀ o : Obj, Below g w (w.alloc o)) := Lib.hid fun o => by rw [← HG.out]; exact (Below.refl _ _).alloc (Nat.le_refl _) _
  go_enter Try.func21, Try.ntmps21
  go_wp2_with fail
  rw [← HW1.out]
  refine HRM.out.mono ?_
  rintro e w2 ⟨rfl, hb2⟩
  have HB2 : Hid (Below g w w2) := Lib.hid (HB1.out.trans (hb2.mono (by have := HS1.out; omega)))
  have hd2 := HD1.out.below hb2 HD1.out.lt
  have HD2 := Lib.hid hd2
  clear hb2 hld c257 c258
  have f257 := hd2.nx
  clear hd2
  cases q with
  | false =>
    have HE : Hid (r = -1) := Lib.hid (by rw [← HR.out]; unfold goQ; rw [HQ.out]; simp)
    go_wp2
    go_ret
    exact ⟨ret_int HE.out.symm, by first | exact HB2.out | (rw [HG.out]; exact HB2.out)⟩
  | true =>
    by_cases hz : z < 0
    · have HE : Hid (r = -1) := Lib.hid (by rw [← HR.out]; unfold goQ; rw [if_neg (by omega)])
      go_wp2
      go_ret
      exact ⟨ret_int HE.out.symm, by first | exact HB2.out | (rw [HG.out]; exact HB2.out)⟩
    · have z0 : (0 : Int) ≤ z := by omega
      by_cases hz2 : (D.nl : Int) ≤ z
      · have HE : Hid (r = -1) := Lib.hid (by
          rw [← HR.out]; unfold goQ
          rw [if_neg (by rw [HLN.out]; omega)])
        go_wp2
        go_ret
        exact ⟨ret_int HE.out.symm, by first | exact HB2.out | (rw [HG.out]; exact HB2.out)⟩
      · obtain ⟨i, rfl⟩ : ∃ k : Nat, z = (k : Int) := ⟨z.toNat, by omega⟩
        obtain ⟨row, y, h1, h2, h3, h4, h5⟩ := right_row HQ.out (i := i) (by rw [HLN.out]; omega) hb
        have HE : Hid (r = y) := Lib.hid (by rw [← HR.out]; unfold goQ; rw [if_pos ⟨HQ.out, by omega, by rw [HLN.out]; omega⟩]; exact goM_at h1 h3)
        obtain ⟨b3, off3, l3, ha3, hbl3, hl3, A3, cc3, d3, hr3⟩ := ((HM.out.below (w' := w2) (by rw [HG.out]; exact HB2.out)).nx).at_ (i := i) (by omega)
        rw [h1] at hl3
        obtain rfl := Option.some.inj hl3
        have hcb : M.cl b < row.length := (List.getElem?_eq_some_iff.1 h3).1
        obtain ⟨b4, off4, y', rfl, hbl4, hy, dy⟩ := hr3.int hcb
        rw [h3] at hy
        obtain rfl := Option.some.inj hy
        have c0 := HD2.out.cl b hb
        rw [HCL.out] at c0
        have hc2 := HCC.out b hb
        rw [ha3] at f257
        obtain ⟨cb, hcbE⟩ : ∃ c, M.cl b = c := ⟨_, rfl⟩
        rw [hcbE] at c0 dy hcb hc2
        have y1 : (i : Int) < (D.nl : Int) := by omega
        have y2 : (0 : Int) ≤ (i : Int) := by omega
        have y3 : (cb : Int) < (row.length : Int) := by omega
        have y4 : (0 : Int) ≤ (cb : Int) := by omega
        have y5 : (b : Int) < 256 := by omega
        have y6 : (0 : Int) ≤ (b : Int) := by omega
        clear h1 h2 h3 ha3 hcbE hr3 hl3 hy
        go_wp2
        go_quiet (fail)
        go_wp2
        go_ret
        have hgs : g ≤ w2.heap.size := by have := HB2.out.size; have := HG.out; omega
        exact ⟨ret_int HE.out.symm, by first | exact HB2.out.trans ((below_drewN w2 _).mono hgs) | (rw [HG.out]; exact HB2.out.trans ((below_drewN w2 _).mono hgs))⟩
end Go.Proofs.Ytmkgipoljbiocaa
/- The chapter's example of layer 14: what must come. -/
namespace Go.Proofs.Ytmkgipoljbiocaa
open Go.RowKit Go.Sort Go.PlainAid
set_option linter.unusedVariables false
set_option linter.unusedSimpArgs false

theorem ex_cls (i : Nat) : i < 256 → exM.cl i < 256 := fun h => by
  have h9 : ∀ j : Fin 256, exM.cl j.val < 256 := by decide +kernel
  exact h9 ⟨i, h⟩
/-- A list in a new block of its own. -/
theorem crow_lit {α : Type} {C : α → List Value} {k : Nat} (hk : ∀ o, (C o).length = k) (w : World) (g : Nat) (hg : w.heap.size = g) (e : TypeId) (os : List α) (cs : Array Value) (hcs : cs = (os.flatMap C).toArray) (n : Nat) (hn : os.length = n) (hl : n ≤ 1000) :
    CRow C k (w.alloc (.cells cs e)) (some ⟨g, 0, none⟩) n os := by
  subst hcs hg
  refine ⟨hn, by omega, fun _ => ⟨_, 0, rfl, by simp, fun i o hi j v hv => ?_⟩⟩
  have h1 := flat_get hk os i o hi j v hv
  rw [World.cell?_alloc_new]
  simpa using h1
theorem exread1 (w : World) : Calls Try.prog 24 #[.string ⟨#[97, 43]⟩] w fun e w' => ∃ A c, e = .returned (.tuple #[.slice A 2 c, .int .i64 2, .int .i64 0]) ∧ CRow rxC 5 w' A 2 (post exT1) ∧ Below w.heap.size w w' :=
  (read_any exS1 3 (post exT1) 2 rfl (by omega) ex_txt1 (by decide) w).mono fun e w' ⟨A, c, he, ho, hb⟩ => ⟨A, c, he, own_row rxC_len ho, hb⟩
theorem exread2 (w : World) : Calls Try.prog 24 #[.string ⟨#[97, 98]⟩] w fun e w' => ∃ A c, e = .returned (.tuple #[.slice A 3 c, .int .i64 2, .int .i64 0]) ∧ CRow rxC 5 w' A 3 (post exT2) ∧ Below w.heap.size w w' :=
  (read_any exS2 3 (post exT2) 2 rfl (by omega) ex_txt2 (by decide) w).mono fun e w' ⟨A, c, he, ho, hb⟩ => ⟨A, c, he, own_row rxC_len ho, hb⟩
def exTk (A : Option Addr) (c : Nat) (B : Option Addr) (d : Nat) : List TkN := [⟨.string ⟨#[]⟩, A, 2, c, 0, some exT1⟩, ⟨.string ⟨#[]⟩, B, 3, d, 0, some exT2⟩]
theorem exfuse (w : World) (A : Option Addr) (c : Nat) (B : Option Addr) (d : Nat) (g : Nat) (hg : w.heap.size = g) (h1 : CRow rxC 5 w A 2 (post exT1)) (h2 : CRow rxC 5 w B 3 (post exT2)) :
    Calls Try.prog 14 #[.slice (some ⟨g, 0, none⟩) 2 2] (w.alloc (.cells #[.string ⟨#[]⟩, .slice A 2 c, .int .i64 0, .string ⟨#[]⟩, .slice B 3 d, .int .i64 0] 46)) fun e w' => ∃ v, e = .returned (.agg (netA v)) ∧ NetAt w' v exN ∧ FCap w' v.fa v.fn ∧ Below w.heap.size w w' := by
  have hb : Below w.heap.size w (w.alloc (.cells #[.string ⟨#[]⟩, .slice A 2 c, .int .i64 0, .string ⟨#[]⟩, .slice B 3 d, .int .i64 0] 46)) := (Below.refl _ _).alloc (Nat.le_refl _) _
  refine (fuse_cap _ (some ⟨g, 0, none⟩) 2 2 (exTk A c B d) ⟨crow_lit (C := tknC) (k := 3) (fun _ => rfl) w g hg _ (exTk A c B d) _ rfl 2 rfl (by omega), fun t ht => ?_⟩ (by omega)).mono ?_
  · simp only [exTk, List.mem_cons, List.not_mem_nil, or_false] at ht
    rcases ht with rfl | rfl
    · exact ⟨⟨h1.below hb, ex_chk1⟩, by show 2 ≤ 600; omega⟩
    · exact ⟨⟨h2.below hb, ex_chk2⟩, by show 3 ≤ 600; omega⟩
  · rintro e w' ⟨v, he, hN, hC, hb'⟩
    exact ⟨v, he, hN, hC, hb.trans (hb'.mono (by simp))⟩
theorem ex_out100 : outerUp exN' 100 4 = some (exF, exNx, exLb) := by decide +kernel
theorem ex_build100 : buildR exN 100 = (⟨clsL exSets, 3, exNx, exLb⟩, 4, 0) := by
  rw [exN_eq]
  have h := outer_end ex_out100 (by decide) 97
  show buildR exN' 100 = _
  unfold buildR
  rw [if_neg (by rw [ex_net]; decide), if_neg (by decide)]
  show tabR exN' (outerUp exN' 100 (4 + 97)) = _
  rw [h]
  show ((⟨clsL exSets, (cnt (sigL exSets) 256 : Int), exNx, exLb⟩ : MS), ((exF.length : Nat) : Int), (0 : Int)) = _
  rw [ex_wid]; rfl
theorem exbuild (w : World) (v : Nv) (hN : NetAt w v exN) (hC : FCap w v.fa v.fn) :
    Calls Try.prog 9 #[.agg (netA v), .int .i64 100] w fun e w' => ∃ D, e = .returned (.tuple #[.agg (dfA D), .int .i64 4, .int .i64 0]) ∧ MAt w' D exM ∧ Below w.heap.size w w' := by
  have h := dbuild_any w v exN 100 hN hC (by
    have := hN.s.1
    rw [exN_eq] at this
    have h3 : (3 : Nat) = v.sn := this
    omega) (by
    have := hN.r.1
    rw [exN_eq] at this
    have h3 : (2 : Nat) = v.rn := this
    omega)
  rw [ex_build100] at h
  exact h
theorem ex_r1 : runM exM (LS ⟨#[97]⟩) = 1 := by decide +kernel
theorem ex_r2 : runM exM (LS ⟨#[97, 97]⟩) = 2 := by decide +kernel
theorem ex_r3 : runM exM (LS ⟨#[97, 98]⟩) = 3 := by decide +kernel
theorem ex_r4 : runM exM (LS ⟨#[98]⟩) = -1 := by decide +kernel
theorem ex_l3 : labM exM 3 = 1 := by decide +kernel
attribute [local go_sem ↓] loadA_eq storeA_eq loadD_eq
set_option maxHeartbeats 4000000 in
set_option maxRecDepth 100000 in
theorem knows_any (w : World) : Calls Try.prog 8 #[] w fun e w' => e = .returned (.bool true) ∧ Below w.heap.size w w' := by
  go_enter Try.func8, Try.ntmps8
  go_wp2_with fail
  refine (exread1 w).mono ?_
  rintro e w1 ⟨A1, c1, rfl, hr1, hb1⟩
  have HR1 := Lib.hid hr1
  have HB1 := Lib.hid hb1
  clear hr1 hb1
  go_wp2_with fail
  refine (exread2 w1).mono ?_
  rintro e w2 ⟨A2, c2, rfl, hr2, hb2⟩
  have HR2 := Lib.hid hr2
  have HR1' := Lib.hid (HR1.out.below hb2)
  have HB2 := Lib.hid (HB1.out.trans (hb2.mono HB1.out.size))
  clear hr2 hb2
  obtain ⟨g, hg⟩ : ∃ g, w2.heap.size = g := ⟨_, rfl⟩
  have HG := Lib.hid hg
  have HFU := Lib.hid (exfuse w2 A1 c1 A2 c2 g hg HR1'.out HR2.out)
  go_wp2_with fail
  refine HFU.out.mono ?_
  rintro e w3 ⟨v, rfl, hN3, hC3, hb3⟩
  have HBD := Lib.hid (exbuild w3 v hN3 hC3)
  have HB3 := Lib.hid (HB2.out.trans (hb3.mono HB2.out.size))
  clear hN3 hC3 hb3
  go_wp2_with fail
  refine HBD.out.mono ?_
  rintro e w4 ⟨D, rfl, hM, hb4⟩
  have HB4 := Lib.hid (HB3.out.trans (hb4.mono HB3.out.size))
  have HM4 := Lib.hid hM
  obtain ⟨X, hX⟩ : ∃ X, w4.heap.size = X := ⟨_, rfl⟩
  have HX := Lib.hid hX
  have hd4 : DfaAt (w4.alloc (.cells Try.zeroCells32 32)) X zeroD := by rw [zc_dfa]; exact DfaAt.new _ _ _ hX
  have HD4 := Lib.hid hd4
  clear hM hb4 hd4
  go_wp2_with (refine wpList_store_dfa rfl _ _ rfl X zeroD D rfl rfl HD4.out ?_; intro w5 hD5 hB5 hO5 hS5; have hb5 : Below w4.heap.size w4 w5 := ((Below.refl _ w4).alloc (Nat.le_refl _) _).trans (hB5 _ (by rw [HX.out]; exact Nat.le_refl _)); have HD5 := Lib.hid hD5; have HB5 := Lib.hid (HB4.out.trans (hb5.mono HB4.out.size)); have HM5 := Lib.hid (HM4.out.below hb5); have HC := Lib.hid (drun_any w5 D exM ⟨#[97]⟩ HM5.out ex_cls (by decide)); rw [ex_r1] at HC; have hld := run_loadD w5 X D hD5; clear hD5 hB5 hO5 hS5 hb5)
  refine HC.out.mono ?_
  rintro e w6 ⟨rfl, hb⟩
  have HD6 := Lib.hid (HD5.out.below hb HD5.out.lt)
  have HM6 := Lib.hid (HM5.out.below hb)
  have HB6 := Lib.hid (HB5.out.trans (hb.mono HB5.out.size))
  clear hb HC hld
  have HC := Lib.hid (drun_any w6 D exM ⟨#[97, 97]⟩ HM6.out ex_cls (by decide))
  rw [ex_r2] at HC
  have hld := run_loadD w6 X D HD6.out
  go_wp2_with fail
  refine HC.out.mono ?_
  rintro e w7 ⟨rfl, hb⟩
  have HD7 := Lib.hid (HD6.out.below hb HD6.out.lt)
  have HM7 := Lib.hid (HM6.out.below hb)
  have HB7 := Lib.hid (HB6.out.trans (hb.mono HB6.out.size))
  clear hb HC hld
  have HC := Lib.hid (drun_any w7 D exM ⟨#[97, 98]⟩ HM7.out ex_cls (by decide))
  rw [ex_r3] at HC
  have hld := run_loadD w7 X D HD7.out
  go_wp2_with fail
  refine HC.out.mono ?_
  rintro e w8 ⟨rfl, hb⟩
  have HD8 := Lib.hid (HD7.out.below hb HD7.out.lt)
  have HM8 := Lib.hid (HM7.out.below hb)
  have HB8 := Lib.hid (HB7.out.trans (hb.mono HB7.out.size))
  clear hb HC hld
  have HC := Lib.hid (drun_any w8 D exM ⟨#[98]⟩ HM8.out ex_cls (by decide))
  rw [ex_r4] at HC
  have hld := run_loadD w8 X D HD8.out
  go_wp2_with fail
  refine HC.out.mono ?_
  rintro e w9 ⟨rfl, hb⟩
  have HD9 := Lib.hid (HD8.out.below hb HD8.out.lt)
  have HM9 := Lib.hid (HM8.out.below hb)
  have HB9 := Lib.hid (HB8.out.trans (hb.mono HB8.out.size))
  clear hb HC hld
  have HC := Lib.hid (dlabel_any w9 D exM 3 HM9.out ex_cls)
  rw [ex_l3] at HC
  have hld := run_loadD w9 X D HD9.out
  go_wp2_with fail
  refine HC.out.mono ?_
  rintro e w10 ⟨rfl, hb⟩
  have HD10 := Lib.hid (HD9.out.below hb HD9.out.lt)
  have HM10 := Lib.hid (HM9.out.below hb)
  have HB10 := Lib.hid (HB9.out.trans (hb.mono HB9.out.size))
  clear hb HC hld
  go_wp2
  go_ret
  exact ⟨rfl, HB10.out⟩
end Go.Proofs.Ytmkgipoljbiocaa
/- Two machines held against each other. -/
namespace Go.Proofs.Ytmkgipoljbiocaa
open Go.RowKit
set_option linter.unusedVariables false
set_option linter.unusedSimpArgs false
attribute [local go_sem ↓] loadA_eq storeA_eq loadD_eq eqA_eq eqA_eq'
set_option maxHeartbeats 4000000 in
set_option maxRecDepth 100000 in
/-- Two that lie apart and are the same. -/
theorem rsameM_any (w : World) (D E : Df) (M : MS) (h : MAt w D M) (h' : MAt w E M) (hC : ∀ i, i < 256 → M.cl i < 256) :
    Calls Try.prog 11 #[.agg (dfA D), .agg (dfA E)] w fun e w' => e = .returned (.bool true) ∧ Below w.heap.size w w' := by
  have HM := Lib.hid h
  have HM' := Lib.hid h'
  have hln := h.nx.len
  have hln' := h'.nx.len
  have HLN := Lib.hid hln.1
  have hnm := hln.2
  have HEQ : Hid ((D.nl : Int) = (E.nl : Int)) := Lib.hid (by rw [← hln.1, ← hln'.1])
  have hwd : D.wd = E.wd := by rw [h.wd, h'.wd]
  obtain ⟨g, hg⟩ : ∃ g, w.heap.size = g := ⟨_, rfl⟩
  have HG := Lib.hid hg
  obtain ⟨W1, hW1, hs1, hb1, hd1⟩ := box_dfa hg D
  obtain ⟨W2, hW2, hs2, hb2, hd2⟩ := box_dfa hs1 E
  have hb12 : Below g w W2 := hb1.trans (hb2.mono (by omega))
  have hd12 := hd1.below hb2 (by omega)
  have HB2 := Lib.hid hb12
  have HD := Lib.hid hd12
  have HE := Lib.hid hd2
  have HS := Lib.hid (rsame_any W2 D.la E.la D.ll E.ll D.lc E.lc M.lb M.lb (h.lb.below (by rw [hg]; exact hb12)) (h'.lb.below (by rw [hg]; exact hb12)))
  have HW2 := Lib.hid hW2
  have hWW := hW2
  rw [hW1] at hWW
  have HWW := Lib.hid hWW
  have c0 := hd12.nx
  have c1 := hd2.nx
  have c2 := hd12.lb
  have c3 := hd2.lb
  have c4 := hd12.wd
  have c5 := hd2.wd
  have hl0 := run_loadAD W2 g D hd12
  have hl1 := run_loadAD W2 (g + 1) E hd2
  rw [h.cl] at hl0
  rw [h'.cl] at hl1
  have heq := fun w => run_eqA_refl M.cl hC w
  rw [hwd] at c4
  have hz0 : (D.nl : Int) = (E.nl : Int) := HEQ.out
  rw [hW2, hW1] at c0 c1 c2 c3 c4 c5 hl0 hl1
  clear h h' hln hln' hWW hW1 hW2 hs1 hs2 hb1 hb2 hb12 hd1 hd2 hd12 hC hwd
  go_enter Try.func11, Try.ntmps11
  go_wp2_with fail
  rw [← HWW.out]
  refine HS.out.mono ?_
  rintro e w2 ⟨rfl, hb2⟩
  have HB3 := Lib.hid (HB2.out.trans (hb2.mono (by have := HB2.out.size; have := HE.out.lt; omega)))
  have HD2 := Lib.hid (HD.out.below hb2 HD.out.lt)
  have HE2 := Lib.hid (HE.out.below hb2 HE.out.lt)
  have hg2 : g + 2 ≤ w2.heap.size := HE2.out.lt
  clear hb2 hl0 hl1 c0 c1 c2 c3 c4 c5
  rw [beq_self_eq_true]
  go_wp2
  go_loopw [5] (fun i wr => ∃ k : Nat, k ≤ D.nl ∧ i = .int .i64 (k : Int) ∧ Below (g + 2) w2 wr) (fun i _ => D.nl - (intOf i).toNat)
  case atStart => exact ⟨0, by omega, rfl, Below.refl _ _⟩
  case round =>
    obtain ⟨k, hk, rfl, hbw⟩ := hrel
    have HBW := Lib.hid hbw
    have HDW := Lib.hid (HD2.out.below hbw (by omega))
    have HEW := Lib.hid (HE2.out.below hbw (by omega))
    have HBT := Lib.hid (HB3.out.trans (hbw.mono (by omega)))
    have c0 := HDW.out.nx
    have hgw : g + 2 ≤ wr.heap.size := HEW.out.lt
    clear hbw
    by_cases hlt : k < D.nl
    case neg =>
      have z1 : ¬ ((k : Int) < (D.nl : Int)) := by omega
      go_wp2
      go_ret
      exact ⟨rfl, by first | exact HBT.out | (rw [HG.out]; exact HBT.out)⟩
    case pos =>
      have z0 : (0 : Int) ≤ (k : Int) := by omega
      have z1 : (k : Int) < (D.nl : Int) := by omega
      have z2 : (k : Int) < (E.nl : Int) := by omega
      have c1 := HEW.out.nx
      obtain ⟨b1, off1, l1, ha1, hbl1, hl1, A1, cc1, d1, hr1⟩ := ((HM.out.below (w' := wr) (by rw [HG.out]; exact HBT.out)).nx).at_ (i := k) (by omega)
      obtain ⟨b2, off2, l2, ha2, hbl2, hl2, A2, cc2, d2, hr2⟩ := ((HM'.out.below (w' := wr) (by rw [HG.out]; exact HBT.out)).nx).at_ (i := k) (by omega)
      obtain rfl := Option.some.inj (hl1.symm.trans hl2)
      rw [ha1] at c0
      rw [ha2] at c1
      have HSI : Hid (∀ X', Onto wr.drew X' → Calls Try.prog 40 #[.slice A1 l1.length cc1, .slice A2 l1.length cc2] X' fun e w' => e = .returned (.bool (l1 == l1)) ∧ Below X'.heap.size X' w') := Lib.hid fun X' hX => rsame_any X' A1 A2 _ _ cc1 cc2 l1 l1 (hr1.below (onto_drew hX)) (hr2.below (onto_drew hX))
      obtain ⟨m, hm⟩ : ∃ m, l1.length = m := ⟨_, rfl⟩
      rw [hm] at d1 d2 HSI
      clear hr1 hr2 hl1 hl2 ha1 ha2 hm
      go_wp2_with fail
      refine wp_region_fam_lit (E := Onto)
        [isV (.pointer (some ⟨g, 257, none⟩)),
         isV (.slice (some ⟨b1, off1, none⟩) D.nl D.nc),
         isV (.int .i64 (k : Int)),
         isV (.pointer (some ⟨b1, off1 + k, none⟩)),
         isV (.slice A1 m cc1),
         isV (.pointer (some ⟨g + 1, 257, none⟩)),
         isV (.slice (some ⟨b2, off2, none⟩) E.nl E.nc),
         isV (.int .i64 (k : Int)),
         isV (.pointer (some ⟨b2, off2 + k, none⟩)),
         isV (.slice A2 m cc2),
         isV (.bool true),
         isV (.bool false)]
        [some 42, some 43, some 44, some 45, some 46, some 47, some 48, some 49, some 50, some 51, some 52, some 53] (by kernel_rfl) rfl (by kernel_rfl) rfl Onto.trans Onto.refl ?monoS ?obS ?qS
      case monoS => exact ⟨isV_mono _ _, isV_mono _ _, isV_mono _ _, isV_mono _ _, isV_mono _ _, isV_mono _ _, isV_mono _ _, isV_mono _ _, isV_mono _ _, isV_mono _ _, isV_mono _ _, isV_mono _ _, trivial⟩
      case obS =>
        refine Obs.cons (j := 1) rfl ?_ ?_
        · refine Ob.free [(2, none)] (by kernel_rfl) (isV (.pointer (some ⟨g, 257, none⟩))) rfl rfl (fun a X hE hL => ?_)
          simp [Seen, slotAt] at hL
          have h2 := hL
          rw [relAt_eq]
          go_simp
          exact ⟨Onto.refl _, rfl⟩
        refine Obs.cons (j := 2) rfl ?_ ?_
        · refine Ob.free [(42, some 0)] (by kernel_rfl) (isV (.slice (some ⟨b1, off1, none⟩) D.nl D.nc)) rfl rfl (fun a X hE hL => ?_)
          simp [Seen, slotAt, famV, isV] at hL
          have h42 := hL
          rw [relAt_eq]
          have f0 := keeps hE _ _ c0
          go_simp
          exact ⟨Onto.refl _, rfl⟩
        refine Obs.cons (j := 3) rfl ?_ ?_
        · refine Ob.free [(5, none)] (by kernel_rfl) (isV (.int .i64 (k : Int))) rfl rfl (fun a X hE hL => ?_)
          simp [Seen, slotAt] at hL
          have h5 := hL
          rw [relAt_eq]
          go_simp
          exact ⟨Onto.refl _, rfl⟩
        refine Obs.cons (j := 4) rfl ?_ ?_
        · refine Ob.free [(43, some 1), (44, some 2)] (by kernel_rfl) (isV (.pointer (some ⟨b1, off1 + k, none⟩))) rfl rfl (fun a X hE hL => ?_)
          simp [Seen, slotAt, famV, isV] at hL
          obtain ⟨h43, h44⟩ := hL
          rw [relAt_eq]
          go_simp
          exact ⟨Onto.refl _, rfl⟩
        refine Obs.cons (j := 5) rfl ?_ ?_
        · refine Ob.free [(45, some 3)] (by kernel_rfl) (isV (.slice A1 m cc1)) rfl rfl (fun a X hE hL => ?_)
          simp [Seen, slotAt, famV, isV] at hL
          have h45 := hL
          rw [relAt_eq]
          have f0 := keeps hE _ _ d1
          go_simp
          exact ⟨Onto.refl _, rfl⟩
        refine Obs.cons (j := 6) rfl ?_ ?_
        · refine Ob.free [(3, none)] (by kernel_rfl) (isV (.pointer (some ⟨g + 1, 257, none⟩))) rfl rfl (fun a X hE hL => ?_)
          simp [Seen, slotAt] at hL
          have h3 := hL
          rw [relAt_eq]
          go_simp
          exact ⟨Onto.refl _, rfl⟩
        refine Obs.cons (j := 7) rfl ?_ ?_
        · refine Ob.free [(47, some 5)] (by kernel_rfl) (isV (.slice (some ⟨b2, off2, none⟩) E.nl E.nc)) rfl rfl (fun a X hE hL => ?_)
          simp [Seen, slotAt, famV, isV] at hL
          have h47 := hL
          rw [relAt_eq]
          have f0 := keeps hE _ _ c1
          go_simp
          exact ⟨Onto.refl _, rfl⟩
        refine Obs.cons (j := 8) rfl ?_ ?_
        · refine Ob.free [(5, none)] (by kernel_rfl) (isV (.int .i64 (k : Int))) rfl rfl (fun a X hE hL => ?_)
          simp [Seen, slotAt] at hL
          have h5 := hL
          rw [relAt_eq]
          go_simp
          exact ⟨Onto.refl _, rfl⟩
        refine Obs.cons (j := 9) rfl ?_ ?_
        · refine Ob.free [(48, some 6), (49, some 7)] (by kernel_rfl) (isV (.pointer (some ⟨b2, off2 + k, none⟩))) rfl rfl (fun a X hE hL => ?_)
          simp [Seen, slotAt, famV, isV] at hL
          obtain ⟨h48, h49⟩ := hL
          rw [relAt_eq]
          go_simp
          exact ⟨Onto.refl _, rfl⟩
        refine Obs.cons (j := 10) rfl ?_ ?_
        · refine Ob.free [(50, some 8)] (by kernel_rfl) (isV (.slice A2 m cc2)) rfl rfl (fun a X hE hL => ?_)
          simp [Seen, slotAt, famV, isV] at hL
          have h50 := hL
          rw [relAt_eq]
          have f0 := keeps hE _ _ d2
          go_simp
          exact ⟨Onto.refl _, rfl⟩
        refine Obs.cons (j := 11) rfl ?_ ?_
        · refine Ob.free [(46, some 4), (51, some 9)] (by kernel_rfl) (isV (.bool true)) rfl rfl (fun a X hE hL => ?_)
          simp [Seen, slotAt, famV, isV] at hL
          obtain ⟨h46, h51⟩ := hL
          rw [relAt_eq]
          go_simp
          rw [relUpon_enter]
          go_at_call 40
          refine (HSI.out X hE).mono ?_
          rintro e Y ⟨rfl, hY⟩
          rw [beq_self_eq_true]
          exact ⟨_, rfl, hY, rfl⟩
        refine Obs.cons (j := 12) rfl ?_ ?_
        · refine Ob.free [(52, some 10)] (by kernel_rfl) (isV (.bool false)) rfl rfl (fun a X hE hL => ?_)
          simp [Seen, slotAt, famV, isV] at hL
          have h52 := hL
          rw [relAt_eq]
          go_simp
          exact ⟨Onto.refl _, rfl⟩
        exact trivial
      case qS =>
        intro x wA hE hV
        simp [AllV, famV, isV] at hV
        obtain ⟨-, -, -, -, -, -, -, -, -, -, -, h53⟩ := hV
        simp only [puts, Act.put, List.setIfInBounds_toArray, List.set_cons_zero, List.set_cons_succ, h53]
        generalize x 42 = y42
        generalize x 43 = y43
        generalize x 44 = y44
        generalize x 45 = y45
        generalize x 46 = y46
        generalize x 47 = y47
        generalize x 48 = y48
        generalize x 49 = y49
        generalize x 50 = y50
        generalize x 51 = y51
        generalize x 52 = y52
        clear h53
        have hbt := onto_drew hE
        have HBN := Lib.hid (HBW.out.trans (hbt.mono hgw))
        clear hE hbt c0 c1 d1 d2 HSI
        go_wp2_with fail
        exact ⟨⟨k + 1, by omega, rfl, HBN.out⟩, by simp only [intOf]; omega⟩
end Go.Proofs.Ytmkgipoljbiocaa
