/- Several texts in one: Build, TwinK, Read6, Key, SMap, Number, PB. -/
import Derived.Test.YtmkgipoljbiocaaTw6
import Derived.Test.YtmkgipoljbiocaaTw7
import Derived.Deep.CutRange
import Derived.Test.YtmkgipoljbiocaaTw3
import Derived.Test.YtmkgipoljbiocaaTw1
import Derived.Lib.BufferRead
import Derived.Test.YtmkgipoljbiocaaTw5
/- The table of a net: the document's Build. -/
namespace Go.Proofs.Ytmkgipoljbiocaa
open Go.RowKit
set_option linter.unusedVariables false
set_option linter.unusedSimpArgs false

theorem outer_len {N : NetS} {most : Nat} : ∀ (i : Nat) {f nx : List (List Int)} {lb : List Int}, outerUp N most i = some (f, nx, lb) → nx.length ≤ i ∧ lb.length ≤ i := by
  intro i
  induction i with
  | zero => intro f nx lb h; simp [outerUp] at h; obtain ⟨_, rfl, rfl⟩ := h; simp
  | succ i ih =>
    intro f nx lb h
    simp only [outerUp] at h
    split at h
    · cases h
    · rename_i f1 nx1 lb1 h1
      have := ih h1
      split at h
      · simp only [Option.some.injEq, Prod.mk.injEq] at h
        obtain ⟨_, rfl, rfl⟩ := h; omega
      · split at h
        · cases h
        · simp only [Option.some.injEq, Prod.mk.injEq] at h
          obtain ⟨_, rfl, rfl⟩ := h; simp; omega
theorem inner_next {N : NetS} {most : Nat} {x : List Int} {i : Nat} {f0 f : List (List Int)} {r t : List Int} {c : Nat} (hin : innerUp N most x i f0 c = some (f, r)) (ht : toL N x i c = t) {f' : List (List Int)} {z : Int} (hf : putF f t = f' ∧ atF f t = z) (hm : f'.length ≤ most) : innerUp N most x i f0 (c + 1) = some (f', r ++ [z]) := by
  simp only [innerUp]
  rw [hin]
  simp only
  rw [ht, hf.1, hf.2, if_neg (by omega)]
theorem inner_fail {N : NetS} {most : Nat} {x : List Int} {i : Nat} {f0 f : List (List Int)} {r t : List Int} {c : Nat} (hin : innerUp N most x i f0 c = some (f, r)) (ht : toL N x i c = t) {f' : List (List Int)} {z : Int} (hf : putF f t = f' ∧ atF f t = z) (hm : most < f'.length) : innerUp N most x i f0 (c + 1) = none := by
  simp only [innerUp]
  rw [hin]
  simp only
  rw [ht, hf.1, if_pos hm]
theorem putF_nil {f : List (List Int)} {t : List Int} (h : t.length = 0) : putF f t = f ∧ atF f t = -1 := by
  have e := List.length_eq_zero_iff.1 h
  unfold putF atF
  rw [if_pos e, if_pos e]; exact ⟨rfl, rfl⟩
theorem putF_new {f : List (List Int)} {t : List Int} (h : t.length ≠ 0) (h2 : findL f t < 0) : putF f t = f ++ [t] ∧ atF f t = (f.length : Int) := by
  have e : t ≠ [] := fun e => h (by rw [e]; rfl)
  unfold putF atF
  rw [if_neg e, if_neg e, if_pos h2, if_pos h2]; exact ⟨rfl, rfl⟩
theorem putF_old {f : List (List Int)} {t : List Int} (h : t.length ≠ 0) (h2 : ¬ findL f t < 0) : putF f t = f ∧ atF f t = findL f t := by
  have e : t ≠ [] := fun e => h (by rw [e]; rfl)
  unfold putF atF
  rw [if_neg e, if_neg e, if_neg h2, if_neg h2]; exact ⟨rfl, rfl⟩
/-- One slice more behind a row of the call's own. -/
theorem app_sl {w : World} {base n : Nat} {v : Value} {os : List (Sl Int)} (hown : w.ownsRow base 23 1 v n (os.flatMap seC)) (z : Sl Int) (hn : n ≤ 1000000) (hbase : base ≤ w.heap.size) (H : Nat) (hH : w.heap.size = H)
    (ops : Array Oper) (rest : List Oper) (o : Oper) (a : Act) (Q : Exit → Act → World → Prop) (hg : o.guard = none) (s x : Operand) (ho : o.op = .call { callee := .builtin .append, args := #[s, x], argTypes := #[25, 25] })
    (hs : a.eval s = v) (hx : a.eval x = .slice (some ⟨H, 0, none⟩) 1 1)
    (h : ∀ g cap w', w'.ownsRow base 23 1 (.slice (some ⟨g, 0, none⟩) (n + 1) cap) (n + 1) ((os ++ [z]).flatMap seC) → (w.alloc (.cells #[.slice z.a z.l z.c] 23)).grownBy w' v.ownBlock → (v.ownBlock = some g ∨ g = H + 1) →
      wpList Try.prog ops Q rest (a.put o.dst (.slice (some ⟨g, 0, none⟩) (n + 1) cap)) w') : wpList Try.prog ops Q (o :: rest) a (w.alloc (.cells #[.slice z.a z.l z.c] 23)) :=
  app_el (P := Try.prog) (C := seC) (T := 25) (by decide) seC_len seC_one Try.underlying25 infoInts rfl hown z (by unfold maxLen; omega) (by omega) hbase H hH #[.slice z.a z.l z.c] rfl ops rest o a Q hg s x ho hs hx h
/-- Three results: a machine in its block, two numbers. -/
theorem results_dfa2 {fn : Func} {p t u : Tmp} (h : fn.results = #[.cell p 32, .tmp t, .tmp u]) (tmps : Array Value) (w : World) (g : Nat) (D : Df) (v x : Value)
    (hp : tmps.getD p undef = .pointer (some ⟨g, 0, none⟩)) (hv : tmps.getD t undef = v) (hx : tmps.getD u undef = x) (hg : DfaAt w g D) :
    (results fn tmps).run Try.prog w = .ok (.tuple #[.agg (dfA D), v, x]) w := by
  have hp' : tmps[p]?.getD undef = .pointer (some ⟨g, 0, none⟩) := by simpa using hp
  have hv' : tmps[t]?.getD undef = v := by simpa using hv
  have hx' : tmps[u]?.getD undef = x := by simpa using hx
  simp [results, h, hp', hv', hx', asAddr, run_loadVar_dfa w g D hg]
set_option maxRecDepth 100000 in
theorem zc_dfa : Try.zeroCells32 = dfA zeroD := by kernel_rfl
theorem zv_dfa : Value.agg Try.zeroCells32 = .agg (dfA zeroD) := congrArg Value.agg zc_dfa
theorem mat0 (w : World) : MAt w zeroD ms0 := ⟨rfl, rfl, ⟨[], ⟨rfl, by decide, fun h => by cases h⟩, fun o ho => by simp at ho, rfl⟩, ⟨rfl, by decide, fun h => by cases h⟩⟩
/-- The machine's rows when the table is begun. -/
theorem DB.begin (u : World) (X : Nat) (C : Nat → Nat) (z : Int) (h : DfaAt u X ⟨C, z, none, 0, 0, none, 0, 0⟩) (hX : X < u.heap.size) :
    DB (X + 1) X ((u.alloc (.cells #[] 3)).alloc (.cells #[.slice (some ⟨u.heap.size, 0, none⟩) 0 0] 23)) ⟨C, z, none, 0, 0, none, 0, 0⟩ (.slice (some ⟨u.heap.size + 1, 0, none⟩) 1 1) [⟨some ⟨u.heap.size, 0, none⟩, 0, 0, []⟩] [] [] (.slice none 0 0) [] [inn ⟨some ⟨u.heap.size, 0, none⟩, 0, 0, []⟩] := by
  have h0 : DB (X + 1) X u ⟨C, z, none, 0, 0, none, 0, 0⟩ (.slice none 0 0) [] [] [] (.slice none 0 0) [] [] := by
    refine ⟨h, ⟨fun r hr => ?_, fun i j r s hi hj hne k hk => ?_⟩, fun o ho => by simp at ho, fun o ho => by simp at ho, by omega, by omega⟩
    · simp only [base4, List.append_nil, List.mem_cons, List.not_mem_nil, or_false] at hr
      rcases hr with rfl | rfl | rfl | rfl <;> exact own_none _ _ _ _
    · exfalso
      have hr := List.mem_of_getElem? hi
      simp only [base4, List.append_nil, List.mem_cons, List.not_mem_nil, or_false] at hr
      rcases hr with rfl | rfl | rfl | rfl <;> simp [Value.ownBlock] at hk
  have hb1 : Below u.heap.size u (u.alloc (.cells #[] 3)) := (Below.refl _ _).alloc (Nat.le_refl _) _
  have h1 := h0.add hb1 (q := inn ⟨some ⟨u.heap.size, 0, none⟩, 0, 0, []⟩) (own_zero u u.heap.size 3 1 (Nat.le_refl _))
  obtain ⟨w1, hw1⟩ : ∃ x, x = u.alloc (.cells #[] 3) := ⟨_, rfl⟩
  have hs : w1.heap.size = u.heap.size + 1 := by rw [hw1]; simp
  rw [← hw1] at h1 ⊢
  have hb2 : Below w1.heap.size w1 (w1.alloc (.cells #[.slice (some ⟨u.heap.size, 0, none⟩) 0 0] 23)) := (Below.refl _ _).alloc (Nat.le_refl _) _
  have ho := own_lit seC_len w1 w1.heap.size 23 (Nat.le_refl _) (⟨some ⟨u.heap.size, 0, none⟩, 0, 0, []⟩ : Sl Int) #[.slice (some ⟨u.heap.size, 0, none⟩) 0 0] rfl
  have h2 := h1.rows.fresh (r := ⟨23, 1, .slice (some ⟨u.heap.size + 1, 0, none⟩) 1 1, 1, seC ⟨some ⟨u.heap.size, 0, none⟩, 0, 0, []⟩⟩) hb2 b4.1 (by rw [← hs]; exact ho) h1.le
  have h3 := h1.below hb2
  refine ⟨h3.box, h2, fun o ho => ?_, h3.memn, h3.lt, h3.le⟩
  rw [List.mem_singleton] at ho
  subst ho
  exact ⟨.head _, rfl⟩
/-- What is found may be read. -/
theorem DB.at_ {B X : Nat} {w : World} {D : Df} {fa : Option Addr} {fc : Nat} {os nx : List (Sl Int)} {lb : List Int} {rv : Value} {r : List Int} {rest : List RowD} (h : DB B X w D (.slice fa os.length fc) os nx lb rv r rest) {k : Nat} (hk : k < os.length) :
    ∃ b off A c x, fa = some ⟨b, off, none⟩ ∧ b < w.heap.size ∧ (os.map Sl.xs)[k]? = some x ∧ w.cell? ⟨b, off + k, none⟩ = some (.slice A x.length c) ∧ CRow intC 1 w A x.length x := by
  obtain ⟨b, off, l, h1, h2, h3, A, c, h4, h5⟩ := h.nrow.at_ hk
  exact ⟨b, off, A, c, l, h1, h2, h3, h4, h5⟩
set_option maxRecDepth 100000 in
set_option maxHeartbeats 8000000 in
theorem rbuild_if (w : World) (v : Nv) (N : NetS) (most : Int) (hv : NetAt w v N) (hsz : netR N = true → v.sn ≤ 1000 ∧ ∀ l ∈ N.fol, l.length ≤ 1000) :
    Calls Try.prog 10 #[.agg (netA v), .int .i64 most] w fun e w' => ∃ D, e = .returned (.tuple #[.agg (dfA D), .int .i64 (buildR N most).2.1, .int .i64 (buildR N most).2.2]) ∧ MAt w' D (buildR N most).1 ∧ Below w.heap.size w w' := by
  have HV := Lib.hid hv
  have HSZ := Lib.hid hsz
  have HLS := Lib.hid hv.s.1
  obtain ⟨g, hg⟩ : ∃ g, w.heap.size = g := ⟨_, rfl⟩
  have HG := Lib.hid hg
  obtain ⟨W1, hW1⟩ : ∃ W, W = (w.alloc (.cells (netA v) 27)).alloc (.cells Try.zeroCells32 32) := ⟨_, rfl⟩
  have hs1 : W1.heap.size = g + 2 := by rw [hW1]; simp [hg]
  have hb1 : Below g w W1 := by rw [hW1, ← hg]; exact ((Below.refl _ _).alloc (Nat.le_refl _) _).alloc (by simp) _
  have hbx : W1.heap[g]? = some (.cells (netA v) 27 (0, 0)) := by rw [hW1, ← hg]; exact (Below.heap_alloc _ _ _ (by simp)).trans (heap_alloc_new w _)
  have hdx : DfaAt W1 (g + 1) zeroD := by rw [hW1, zc_dfa]; exact DfaAt.new _ _ _ (by simp [hg])
  have HR := Lib.hid (rnet_any W1 v N (hv.below (by rw [hg]; exact hb1)))
  have HBX := Lib.hid hbx
  have HDX := Lib.hid hdx
  have HB1 := Lib.hid hb1
  have HS1 := Lib.hid hs1
  have HW1 := Lib.hid hW1
  have HBX0 := Lib.hid hbx
  rw [hW1] at HBX0 HR
  obtain ⟨r, hr⟩ : ∃ r, netR N = r := ⟨_, rfl⟩
  have HRR := Lib.hid hr
  rw [hr] at HR
  clear hv hsz hbx hdx hb1 hs1 hW1 hr
  go_enter Try.func10, Try.ntmps10
  go_wp2_with (refine wpList_load_row rfl 27 _ rfl g rfl 27 (netA v) _ _ HBX0.out Try.underlying27 rfl sizeNet ?_)
  refine HR.out.mono ?_
  rintro e w2 ⟨rfl, hb2⟩
  rw [← HW1.out, HS1.out] at hb2
  have HB2 := Lib.hid hb2
  have HBT := Lib.hid (HB1.out.trans (hb2.mono (by omega)))
  have hs2 : g + 2 ≤ w2.heap.size := by have := hb2.size; have := HS1.out; omega
  have HX2 := Lib.hid ((hb2.block g (by omega)).trans HBX.out)
  have HD2 := Lib.hid (HDX.out.below hb2 (by omega))
  clear hb2 HR
  cases r with
  | false =>
    have HE : Hid (buildR N most = (ms0, 0, 3)) := Lib.hid (by unfold buildR; rw [if_pos HRR.out])
    go_wp2_with (refine wpList_store_dfa rfl _ _ rfl (g + 1) zeroD zeroD rfl zv_dfa HD2.out ?_; intro w9 hD9 hB9 hO9 hS9)
    refine bodyPost_ret (results_dfa2 rfl _ _ (g + 1) zeroD _ _ rfl rfl rfl hD9) rfl ?_
    rw [HE.out]
    exact ⟨zeroD, rfl, mat0 _, by first | exact HBT.out.trans (hB9 g (by omega)) | (rw [HG.out]; exact HBT.out.trans (hB9 g (by omega)))⟩
  | true =>
    obtain ⟨hs, hf⟩ := HSZ.out HRR.out
    have HF := Lib.hid hf
    clear hf
    by_cases hm : most < 1 ∨ 4096 < most
    case pos =>
      have HE : Hid (buildR N most = (ms0, 0, 2)) := Lib.hid (by unfold buildR; rw [if_neg (by rw [HRR.out]; decide), if_pos hm])
      by_cases hm1 : most < 1
      · go_wp2_with (refine wpList_store_dfa rfl _ _ rfl (g + 1) zeroD zeroD rfl zv_dfa HD2.out ?_; intro w9 hD9 hB9 hO9 hS9)
        refine bodyPost_ret (results_dfa2 rfl _ _ (g + 1) zeroD _ _ rfl rfl rfl hD9) rfl ?_
        rw [HE.out]
        exact ⟨zeroD, rfl, mat0 _, by first | exact HBT.out.trans (hB9 g (by omega)) | (rw [HG.out]; exact HBT.out.trans (hB9 g (by omega)))⟩
      · have hm2 : 4096 < most := by omega
        go_wp2_with (refine wpList_store_dfa rfl _ _ rfl (g + 1) zeroD zeroD rfl zv_dfa HD2.out ?_; intro w9 hD9 hB9 hO9 hS9)
        refine bodyPost_ret (results_dfa2 rfl _ _ (g + 1) zeroD _ _ rfl rfl rfl hD9) rfl ?_
        rw [HE.out]
        exact ⟨zeroD, rfl, mat0 _, by first | exact HBT.out.trans (hB9 g (by omega)) | (rw [HG.out]; exact HBT.out.trans (hB9 g (by omega)))⟩
    case neg =>
      have hm1 : ¬ most < 1 := by omega
      have hm2 : ¬ 4096 < most := by omega
      have HE : Hid (buildR N most = tabR N (outerUp N most.toNat (most.toNat + 1))) := Lib.hid (by unfold buildR; rw [if_neg (by rw [HRR.out]; decide), if_neg hm])
      obtain ⟨M, hM⟩ : ∃ M : Nat, most = (M : Int) := ⟨most.toNat, by omega⟩
      subst hM
      have hM1 : 1 ≤ M := by omega
      have hM2 : M ≤ 4096 := by omega
      rw [Int.toNat_natCast] at HE
      obtain ⟨X, hX⟩ : ∃ X, w2.heap.size = X := ⟨_, rfl⟩
      have HX := Lib.hid hX
      have hXg : g + 2 ≤ X := by omega
      have hd3 : DfaAt (w2.alloc (.cells Try.zeroCells32 32)) X zeroD := by rw [zc_dfa]; exact DfaAt.new _ _ _ hX
      have HD3 := Lib.hid hd3
      clear hd3 hm
      go_wp2_with (refine wpList_store_dfa rfl _ _ rfl X zeroD zeroD rfl zv_dfa HD3.out ?_; intro w3 hD3 hB3 hO3 hS3; have hb3 : Below X w2 w3 := ((Below.refl X w2).alloc (by omega) _).trans (hB3 X (Nat.le_refl _)); obtain ⟨cc0, cc1, cc2, cc3, cc4⟩ := netC (W := w3) (g := g) (v := v) ((hb3.block g (by omega)).trans HX2.out); have HB3 := Lib.hid hb3; have HD4 := Lib.hid hD3; have hs3 : X + 1 ≤ w3.heap.size := hD3.lt; clear hD3 hB3 hO3 hS3 hb3)
      have HOF := Lib.hid (refof_any N.sets v.sa v.sn v.sc w3 (HV.out.below (w' := w3) (by rw [HG.out]; exact HBT.out.trans (HB3.out.mono (by omega)))).s)
      refine HOF.out.mono ?_
      rintro e w4 ⟨rfl, hb4⟩
      have HD5 := Lib.hid (HD4.out.below hb4 (by omega))
      have HB4 := Lib.hid (HB3.out.trans (hb4.mono (by omega)))
      have hs4 : X + 1 ≤ w4.heap.size := by have := hb4.size; omega
      clear hb4 HOF HD4 HD3 cc0 cc1 cc2 cc3 cc4
      go_wp2_with (refine wpList_store_dcl rfl _ _ rfl X zeroD (clsL N.sets) rfl rfl HD5.out ?_; intro w5 hD5 hB5 hO5 hS5; have c256 := hD5.wd; have f256 := hD5.frozen 256; have HB5 := Lib.hid (HB4.out.trans (hB5 X (Nat.le_refl _))); have HD6 := Lib.hid hD5; have hs5 : X + 1 ≤ w5.heap.size := hD5.lt; clear hD5 hB5 hO5 hS5)
      have hs6 : (w5.setCell ⟨X, 256, none⟩ (.int .i64 (widN N : Int))).heap.size = w5.heap.size := by simp
      have hdb := DB.begin (w5.setCell ⟨X, 256, none⟩ (.int .i64 (widN N : Int))) X (clsL N.sets) (widN N : Int) (HD6.out.set_ 256 _ (dfA_setwd _ _)) (by rw [hs6]; omega)
      rw [hs6] at hdb
      obtain ⟨W6, hW6⟩ : ∃ W, W = ((w5.setCell ⟨X, 256, none⟩ (.int .i64 (widN N : Int))).alloc (.cells #[] 3)).alloc (.cells #[.slice (some ⟨w5.heap.size, 0, none⟩) 0 0] 23) := ⟨_, rfl⟩
      rw [← hW6] at hdb
      have hb6 : Below X w2 W6 := by
        rw [hW6]
        exact ((HB5.out.setCell (p := ⟨X, 256, none⟩) (Nat.le_refl _) _).alloc (by rw [hs6]; omega) _).alloc (by rw [World.size_alloc, hs6]; omega) _
      have HDB0 := Lib.hid hdb
      have HB6 := Lib.hid hb6
      have HGT := Lib.hid (HBT.out.trans (hb6.mono (by omega)))
      have HX6 := Lib.hid ((hb6.block g (by omega)).trans HX2.out)
      have HD26 := Lib.hid (HD2.out.below hb6 (by omega))
      have hs6' : X + 1 ≤ W6.heap.size := hdb.le
      obtain ⟨s5, hs5'⟩ : ∃ x, w5.heap.size = x := ⟨_, rfl⟩
      show Code.wp _ _ _ _ (((w5.setCell ⟨X, 256, none⟩ (.int .i64 (widN N : Int))).alloc (.cells #[] 3)).alloc (.cells #[.slice (some ⟨w5.heap.size, 0, none⟩) 0 0] 23))
      rw [← hW6]
      rw [hs5'] at HDB0 ⊢
      obtain ⟨wid, hwid⟩ : ∃ x, widN N = x := ⟨_, rfl⟩
      have HWID := Lib.hid hwid
      have hwidle : wid ≤ 256 := by rw [← hwid]; exact cnt_le _ _
      rw [hwid] at HDB0
      clear hdb hW6 hb6 HD6 HB5 HD5 HB4 c256 f256 hs6 hs5' HB3 hwid hs5 hs4 hs3
      go_loopw [8, 9] (fun fv iv wr => ∃ (k : Nat) (D : Df) (os nx : List (Sl Int)) (lb : List Int) (rest : List RowD), k ≤ os.length ∧ iv = .int .i64 (k : Int) ∧ DB (X + 1) X wr D fv os nx lb (.slice none 0 0) [] rest ∧ outerUp N M k = some (os.map Sl.xs, nx.map Sl.xs, lb) ∧ D.cl = clsL N.sets ∧ D.wd = (wid : Int) ∧ GoodF N M (os.map Sl.xs) ∧ Below X W6 wr) (fun _ i _ => M - (intOf i).toNat)
      case atStart => exact ⟨0, _, _, _, _, _, by omega, rfl, HDB0.out, rfl, rfl, rfl, ⟨by simp, by simp; omega, by simp⟩, Below.refl _ _⟩
      case round =>
        obtain ⟨k, D, os, nx, lb, rest, hk, rfl, hdb, hup, hcl, hwd, hgood, hbw⟩ := hrel
        have HDB := Lib.hid hdb
        have HUP := Lib.hid hup
        have HGO := Lib.hid hgood
        have HBW := Lib.hid hbw
        have hosM : os.length ≤ M := by have := hgood.2.1; rwa [List.length_map] at this
        have hgl : X + 1 ≤ wr.heap.size := hdb.le
        obtain ⟨fa, fc, rfl, hf1, hf2⟩ := own_form hdb.own.1
        have HDg := Lib.hid (HD26.out.below hbw (by omega))
        have HXg := Lib.hid ((hbw.block g (by omega)).trans HX6.out)
        have HBX2 := Lib.hid (HGT.out.trans (hbw.mono (by omega)))
        have HCL := Lib.hid hcl
        have HWD := Lib.hid hwd
        have HDX2 := Lib.hid hdb.box
        clear hdb hup hgood hbw hcl hwd
        by_cases hlt : k < os.length
        case neg =>
          obtain rfl : k = os.length := by omega
          have z2 : ¬ ((os.length : Int) < (os.length : Int)) := by omega
          have HFIN : Hid (buildR N (M : Int) = (⟨clsL N.sets, (wid : Int), nx.map Sl.xs, lb⟩, (os.length : Int), 0)) := Lib.hid (by
            rw [HE.out]
            have h1 := outer_end HUP.out (by rw [List.length_map]; exact Nat.le_refl _) (M + 1 - os.length)
            rw [show os.length + (M + 1 - os.length) = M + 1 by omega] at h1
            rw [h1]
            simp only [tabR, List.length_map]
            rw [HWID.out])
          go_wp2_with (first
            | (refine wpList_load_dfa rfl _ rfl X D rfl HDX2.out ?_)
            | (refine wpList_store_dfa rfl _ _ rfl (g + 1) zeroD D rfl rfl HDg.out ?_; intro w9 hD9 hB9 hO9 hS9))
          refine bodyPost_ret (results_dfa2 rfl _ _ (g + 1) D _ _ rfl rfl rfl hD9) rfl ?_
          rw [HFIN.out]
          have hm := (HDB.out.kept (w' := w9) (fun q hq hq2 => hO9 q (by omega)) (by omega)).mat
          rw [HCL.out, HWD.out] at hm
          exact ⟨D, rfl, hm, by first | exact HBX2.out.trans (hB9 g (by omega)) | (rw [HG.out]; exact HBX2.out.trans (hB9 g (by omega)))⟩
        case pos =>
          obtain ⟨b1, off1, A1, c1, xx, rfl, hb1, hx, d1, hr1⟩ := HDB.out.at_ hlt
          have hxN : xx.length ≤ 1000 := by have h1 := HGO.out.2.2 xx (List.mem_of_getElem? hx); have h2 := HLS.out; omega
          have z0 : (0 : Int) ≤ (k : Int) := by omega
          have z1 : (k : Int) < (os.length : Int) := by omega
          have HXK := Lib.hid hx
          have HDB1 := Lib.hid (HDB.out.new_c (w' := wr.alloc (.cells #[] 3)) ((Below.refl wr.heap.size wr).alloc (Nat.le_refl _) _) (own_zero wr wr.heap.size 3 1 (Nat.le_refl _)))
          have HBW1 := Lib.hid (HBW.out.alloc (by omega) (.cells #[] 3))
          obtain ⟨W7, hW7⟩ : ∃ W, W = wr.alloc (.cells #[] 3) := ⟨_, rfl⟩
          have HW7 := Lib.hid hW7
          rw [← hW7] at HDB1 HBW1
          obtain ⟨s7, hs7⟩ : ∃ q, wr.heap.size = q := ⟨_, rfl⟩
          rw [hs7] at HDB1
          have HS7 := Lib.hid hs7
          have HIN0 : Hid (innerUp N M xx k (os.map Sl.xs) 0 = some (os.map Sl.xs, [])) := Lib.hid rfl
          clear hx hr1 d1 hW7 hs7
          go_wp2_with fail
          rw [← HW7.out, HS7.out]
          obtain ⟨fa, hfa⟩ : ∃ q, q = some (⟨b1, off1, none⟩ : Addr) := ⟨_, rfl⟩
          skip
          go_loopg [8, 10, 11] wid (fun gk fv rv iv wq => ∃ (c : Nat) (os' : List (Sl Int)) (r : List Int) (rest' : List RowD), c + gk = wid ∧ iv = .int .i64 (c : Int) ∧ DB (X + 1) X wq D fv os' nx lb rv r rest' ∧ innerUp N M xx k (os.map Sl.xs) c = some (os'.map Sl.xs, r) ∧ Below X W6 wq)
          case atStart => exact ⟨0, _, _, _, by omega, rfl, HDB1.out, HIN0.out, HBW1.out⟩
          case round =>
            obtain ⟨c, os', r, rest', hc, rfl, hdb, hin, hbw⟩ := hrel
            have HDQ := Lib.hid hdb
            have HIN := Lib.hid hin
            have HBQ := Lib.hid hbw
            obtain ⟨fa, fc', rfl, hf1', hf2'⟩ := own_form hdb.own.1
            obtain ⟨ra, rc, rfl, hr1', hr2'⟩ := own_form hdb.own.2.2.2
            obtain ⟨hg', hrl, hlen', hkeep⟩ := inner_good HGO.out c hin
            have HG1 := Lib.hid hg'
            have hosM' : os'.length ≤ M := by have := hg'.2.1; rwa [List.length_map] at this
            have hkos : k < os'.length := by rw [List.length_map, List.length_map] at hlen'; omega
            have HXK' := Lib.hid (hkeep k xx HXK.out)
            have hrlen : r.length = c := hrl
            skip
            have HDXq := Lib.hid hdb.box
            have cw : wr.cell? ⟨X, 256, none⟩ = some (.int .i64 (wid : Int)) := by rw [← HWD.out]; exact hdb.box.wd
            have hgq : X + 1 ≤ wr.heap.size := hdb.le
            clear hdb hin hbw hg' hlen' hkeep hrl
            by_cases hltc : c < wid
            case neg =>
              have y1 : ¬ ((c : Int) < (wid : Int)) := by omega
              have hcw : c = wid := by omega
              have HUP2 := Lib.hid (outer_step HUP.out HXK.out (by rw [HWID.out, ← hcw]; exact HIN.out))
              clear hcw
              have hnl := outer_len k HUP.out
              rw [List.length_map] at hnl
              have HDR := Lib.hid (by have h := HDQ.out.free_c; rw [hrlen] at h; exact h : DB (X + 1) X wr D (.slice fa os'.length fc') os' nx lb (.slice none 0 0) [] (rest' ++ [inn ⟨ra, c, rc, r⟩]))
              have hgR : X + 1 ≤ wr.heap.size := HDR.out.le
              have c257 := HDXq.out.nx
              have HON := Lib.hid HDR.out.own.2.1
              have HAN := Lib.hid (app_sl HON.out ⟨ra, c, rc, r⟩ (by omega) hgR wr.heap.size rfl)
              have ne1 : (Value.slice D.na D.nl D.nc).ownBlock ≠ some X := by intro e; have := (HON.out.lt _ e).1; omega
              have NE1 := Lib.hid ne1
              clear ne1
              go_wp2_with (at_builtin; refine HAN.out _ _ _ _ _ rfl _ _ rfl rfl rfl ?_; intro gg cap w6 hownB hgrow hat; have HOB := Lib.hid hownB; have HGB := Lib.hid hgrow; have HAT := Lib.hid hat; have hdx6 : DfaAt w6 X D := (hgrow.block X (by simp; omega) (fun e => NE1.out e.symm)).trans ((heap_alloc_old wr _ (by omega)).trans HDXq.out); have cS := hdx6.nx; have fS := hdx6.frozen 257; clear hownB hgrow hat hdx6)
              have HD7 := Lib.hid (HDR.out.put_n ((Below.refl wr.heap.size wr).alloc (Nat.le_refl _) (.cells #[.slice ra c rc] 23)) HGB.out (a := some ⟨gg, 0, none⟩) (n := nx.length + 1) (c := cap) (z := ⟨ra, c, rc, r⟩) HOB.out (row_new HAT.out (by omega) rfl) ⟨List.mem_append_right _ (.head _), hrlen.symm⟩)
              have HB7 : Hid (Below X W6 (w6.setCell ⟨X, 257, none⟩ (.slice (some ⟨gg, 0, none⟩) (nx.length + 1) cap))) := Lib.hid ((below_grown (HBQ.out.alloc (by omega) _) (by simp; omega) HGB.out (fun q hq => by have := (own_ge HON.out hq).1; omega)).setCell (p := ⟨X, 257, none⟩) (Nat.le_refl _) _)
              obtain ⟨w7, hw7⟩ : ∃ W, W = w6.setCell ⟨X, 257, none⟩ (.slice (some ⟨gg, 0, none⟩) (nx.length + 1) cap) := ⟨_, rfl⟩
              rw [← hw7]
              rw [← hw7] at HD7 HB7
              clear hw7 cS fS c257 HOB HGB HAT HAN HON NE1 HDR
              have hg7 : X + 1 ≤ w7.heap.size := HD7.out.le
              have HX7 := Lib.hid ((HB7.out.block g (by omega)).trans HX6.out)
              obtain ⟨n0, n1, n2, n3, n4⟩ := netC (W := w7) (g := g) (v := v) HX7.out
              obtain ⟨b2, off2, A2, c2, xx', rfl, hb2, hx', d2, hr2⟩ := HD7.out.at_ hkos
              obtain rfl : xx = xx' := Option.some.inj (HXK'.out.symm.trans hx')
              have c258 : w7.cell? ⟨X, 258, none⟩ = some (.slice D.la D.ll D.lc) := HD7.out.box.lb
              have HTK : Hid (∀ X', Onto w7.drew X' → Calls Try.prog 39 #[.agg (netA v), .slice A2 xx.length c2] X' fun e w' => e = .returned (.int .i64 (tokenL N xx)) ∧ Below X'.heap.size X' w') := Lib.hid fun X' hX => rtoken_any X' v N A2 xx.length c2 xx (HV.out.below (by rw [HG.out]; exact (HGT.out.trans (HB7.out.mono (by omega))).trans ((onto_drew hX).mono (by omega)))) (hr2.below (onto_drew hX))
              obtain ⟨tk, htk⟩ : ∃ q, tokenL N xx = q := ⟨_, rfl⟩
              rw [htk] at HTK HUP2
              clear hx' hr2 htk
              obtain ⟨xl, hxl⟩ : ∃ q, xx.length = q := ⟨_, rfl⟩
              rw [hxl] at d2 HTK
              clear hxl
              have hkol : (k : Int) < (os'.length : Int) := by omega
              clear cw
              refine wp_region_fam_tail_lit (E := Onto) 9 3
                [isV (.pointer (some ⟨X, 258, none⟩)),
                 isV (.slice D.la D.ll D.lc),
                 isV (.agg (netA v)),
                 isV (.slice (some ⟨b2, off2, none⟩) os'.length fc'),
                 isV (.int .i64 (k : Int)),
                 isV (.pointer (some ⟨b2, off2 + k, none⟩)),
                 isV (.slice A2 xl c2),
                 isV (.int .i64 tk),
                 newB (intC tk) 3]
                [some 97, some 98, some 99, some 100, some 101, some 102, some 103, some 104, some 105] #[true, true, true, true, true, true, true, true, true, false, false, false] (by kernel_rfl) rfl (by kernel_rfl) (by kernel_rfl) rfl rfl rfl Onto.trans Onto.refl ?monoZ ?obZ ?qZ
              case monoZ => exact ⟨isV_mono _ _, isV_mono _ _, isV_mono _ _, isV_mono _ _, isV_mono _ _, isV_mono _ _, isV_mono _ _, isV_mono _ _, newB_mono _ _, trivial⟩
              case obZ =>
                refine Obs.cons (j := 1) rfl ?_ ?_
                · refine Ob.free [(7, none)] (by kernel_rfl) (isV (.pointer (some ⟨X, 258, none⟩))) rfl rfl (fun a X hE hL => ?_)
                  simp [Seen, slotAt] at hL
                  have h7 := hL
                  rw [relAt_eq]
                  go_simp
                  exact ⟨Onto.refl _, rfl⟩
                refine Obs.cons (j := 2) rfl ?_ ?_
                · refine Ob.free [(97, some 0)] (by kernel_rfl) (isV (.slice D.la D.ll D.lc)) rfl rfl (fun a X hE hL => ?_)
                  simp [Seen, slotAt, famV, isV] at hL
                  have h97 := hL
                  rw [relAt_eq]
                  have f0 := keeps hE _ _ c258
                  go_simp
                  exact ⟨Onto.refl _, rfl⟩
                refine Obs.cons (j := 3) rfl ?_ ?_
                · refine Ob.free [(2, none)] (by kernel_rfl) (isV (.agg (netA v))) rfl rfl (fun a X hE hL => ?_)
                  simp [Seen, slotAt] at hL
                  have h2 := hL
                  rw [relAt_eq]
                  have f0 := keeps hE _ _ n0; have f1 := keeps hE _ _ n1; have f2 := keeps hE _ _ n2; have f3 := keeps hE _ _ n3; have f4 := keeps hE _ _ n4
                  go_simp
                  exact ⟨Onto.refl _, rfl⟩
                refine Obs.cons (j := 4) rfl ?_ ?_
                · refine Ob.free [(8, none)] (by kernel_rfl) (isV (.slice (some ⟨b2, off2, none⟩) os'.length fc')) rfl rfl (fun a X hE hL => ?_)
                  simp [Seen, slotAt] at hL
                  have h8 := hL
                  rw [relAt_eq]
                  go_simp
                  exact ⟨Onto.refl _, rfl⟩
                refine Obs.cons (j := 5) rfl ?_ ?_
                · refine Ob.free [(9, none)] (by kernel_rfl) (isV (.int .i64 (k : Int))) rfl rfl (fun a X hE hL => ?_)
                  simp [Seen, slotAt] at hL
                  have h9 := hL
                  rw [relAt_eq]
                  go_simp
                  exact ⟨Onto.refl _, rfl⟩
                refine Obs.cons (j := 6) rfl ?_ ?_
                · refine Ob.free [(100, some 3), (101, some 4)] (by kernel_rfl) (isV (.pointer (some ⟨b2, off2 + k, none⟩))) rfl rfl (fun a X hE hL => ?_)
                  simp [Seen, slotAt, famV, isV] at hL
                  obtain ⟨h100, h101⟩ := hL
                  rw [relAt_eq]
                  go_simp
                  exact ⟨Onto.refl _, rfl⟩
                refine Obs.cons (j := 7) rfl ?_ ?_
                · refine Ob.free [(102, some 5)] (by kernel_rfl) (isV (.slice A2 xl c2)) rfl rfl (fun a X hE hL => ?_)
                  simp [Seen, slotAt, famV, isV] at hL
                  have h102 := hL
                  rw [relAt_eq]
                  have f0 := keeps hE _ _ d2
                  go_simp
                  exact ⟨Onto.refl _, rfl⟩
                refine Obs.cons (j := 8) rfl ?_ ?_
                · refine Ob.free [(99, some 2), (103, some 6)] (by kernel_rfl) (isV (.int .i64 tk)) rfl rfl (fun a X hE hL => ?_)
                  simp [Seen, slotAt, famV, isV] at hL
                  obtain ⟨h99, h103⟩ := hL
                  rw [relAt_eq]
                  go_simp
                  rw [relUpon_enter]
                  go_at_call 39
                  refine (HTK.out X hE).mono ?_
                  rintro e Y ⟨rfl, hY⟩
                  exact ⟨_, rfl, hY, rfl⟩
                refine Obs.cons (j := 9) rfl ?_ ?_
                · refine Ob.free [(104, some 7)] (by kernel_rfl) (newB (intC tk) 3) rfl rfl (fun a X hE hL => ?_)
                  simp [Seen, slotAt, famV, isV] at hL
                  have h104 := hL
                  rw [relAt_eq]
                  go_simp
                  exact ⟨(Below.refl _ _).alloc (Nat.le_refl _) _, X.heap.size, rfl, heap_alloc_new X _⟩
                exact trivial
              case qZ =>
                intro x wA hE hV
                simp [AllV, famV, isV] at hV
                obtain ⟨-, h98, -, -, -, -, -, -, h105⟩ := hV
                simp only [puts, Act.put, List.setIfInBounds_toArray, List.set_cons_zero, List.set_cons_succ, h98]
                generalize x 97 = y97
                generalize x 99 = y99
                generalize x 100 = y100
                generalize x 101 = y101
                generalize x 102 = y102
                generalize x 103 = y103
                generalize x 104 = y104
                generalize x 105 = y105 at h105 ⊢
                clear h98
                have hbA := onto_drew hE
                have HBA := Lib.hid hbA
                have HOA := Lib.hid (ownB HD7.out.own.2.2.1 hbA)
                have HXA := Lib.hid (HD7.out.below hbA).box
                have hgA : X + 1 ≤ wA.heap.size := by have := hbA.size; omega
                obtain ⟨gn, rfl, hgn⟩ := h105
                have ne3 : (Value.slice D.la D.ll D.lc).ownBlock ≠ some X := by intro e; have := (HOA.out.lt _ e).1; omega
                have NE3 := Lib.hid ne3
                clear hE hbA ne3 c258 d2 n0 n1 n2 n3 n4
                refine wpAny_ready (rs := [9]) (by kernel_rfl) (by simp) ?_
                refine AllReady.cons rfl (fun K hK => ?_) AllReady.nil
                rw [if_pos (by rfl)]
                refine wp_app_el (C := intC) (v := .slice D.la D.ll D.lc) (t := 23) (by decide) intC_len intC_one Try.underlying23 infoInt rfl _ _ _ rfl rfl HOA.out tk rfl hgn (by unfold maxLen; omega) (by omega) hgA ?_
                intro gg9 cap9 wB hownB hgrow hat
                have HOB := Lib.hid hownB
                have HGB := Lib.hid hgrow
                have HAT := Lib.hid hat
                have HXB : Hid (DfaAt wB X _) := Lib.hid ((hgrow.block X (by omega) (fun e => NE3.out e.symm)).trans HXA.out)
                clear hownB hgrow hat
                refine hK _ _ ?_
                clear hK K
                try simp only [Act.put, List.getElem_toArray, List.getElem_cons_succ, List.getElem_cons_zero, List.setIfInBounds_toArray, List.set_cons_zero, List.set_cons_succ]
                refine wpAny_take (i := 10) (v := .pointer (some ⟨X, 258, none⟩)) rfl (by kernel_rfl) (by kernel_rfl) (by kernel_rfl) (fun _ _ _ h => h) (Or.inl ⟨by rfl, fun X => ?_⟩) ?_
                · go_simp
                try simp only [Act.put, List.getElem_toArray, List.getElem_cons_succ, List.getElem_cons_zero, List.setIfInBounds_toArray, List.set_cons_zero, List.set_cons_succ]
                refine wpAny_ready (rs := [11]) (by kernel_rfl) (by simp) ?_
                refine AllReady.cons rfl (fun K hK => ?_) AllReady.nil
                rw [if_pos (by rfl)]
                have cS := HXB.out.lb
                have fS := HXB.out.frozen 258
                go_simp
                clear cS fS
                refine hK _ _ ?_
                clear hK K
                try simp only [Act.put, List.getElem_toArray, List.getElem_cons_succ, List.getElem_cons_zero, List.setIfInBounds_toArray, List.set_cons_zero, List.set_cons_succ]
                refine wpAny_done (by kernel_rfl) ?_ _
                have HDL := Lib.hid (HD7.out.put_l HBA.out HGB.out (a := some ⟨gg9, 0, none⟩) (n := lb.length + 1) (c := cap9) (z := tk) HOB.out (row_new HAT.out HBA.out.size rfl))
                have HBL : Hid (Below X W6 (wB.setCell ⟨X, 258, none⟩ (.slice (some ⟨gg9, 0, none⟩) (lb.length + 1) cap9))) := Lib.hid ((below_grown (HB7.out.trans (HBA.out.mono (by omega))) (by omega) HGB.out (fun q hq => by have := (own_ge HOA.out hq).1; omega)).setCell (p := ⟨X, 258, none⟩) (Nat.le_refl _) _)
                obtain ⟨w8, hw8⟩ : ∃ W, W = wB.setCell ⟨X, 258, none⟩ (.slice (some ⟨gg9, 0, none⟩) (lb.length + 1) cap9) := ⟨_, rfl⟩
                rw [← hw8]
                rw [← hw8] at HDL HBL
                clear hw8 HOB HGB HAT HXB HXA HOA HBA NE3
                have HUP3 : Hid (outerUp N M (k + 1) = some (os'.map Sl.xs, (nx ++ [(⟨ra, c, rc, r⟩ : Sl Int)]).map Sl.xs, lb ++ [tk])) := Lib.hid (by rw [List.map_append]; exact HUP2.out)
                go_wp2_with fail
                exact ⟨⟨k + 1, _, _, _, _, _, by omega, rfl, HDL.out, HUP3.out, HCL.out, HWD.out, HG1.out, HBL.out⟩, by simp only [intOf]; omega⟩
            case pos =>
              have y0 : (0 : Int) ≤ (c : Int) := by omega
              have y1 : (c : Int) < (wid : Int) := by omega
              obtain ⟨bt, hbt, hbl⟩ := firstB_lt N.sets c (by have h1 := HWID.out; unfold widN at h1; omega)
              have HBY : Hid (∀ X', Calls Try.prog 35 #[.agg (arrC D.cl), .int .i64 (c : Int)] X' fun e w' => ∃ v, e = .returned v ∧ w'.ownsRow X'.heap.size 5 1 v (firstB N.sets c :: bt).length (vals (firstB N.sets c :: bt)) ∧ Below X'.heap.size X' w') := Lib.hid fun X' => by rw [HCL.out, ← hbt]; exact refbytes_any (clsL N.sets) (fun i hi => by have h1 := cls_lt (sigL N.sets) hi; have h2 := cnt_le (sigL N.sets) 256; unfold clsL; omega) (c : Int) X'
              obtain ⟨b, hb⟩ : ∃ q, firstB N.sets c = q := ⟨_, rfl⟩
              have HTO : Hid (toL N xx k c = if k = 0 then startL N b else stepL N xx b) := Lib.hid (by unfold toL; rw [hb])
              rw [hb] at HBY hbl
              clear hbt hb
              go_wp2_with (refine wpList_load_dcl rfl _ rfl X D rfl HDXq.out ?_)
              refine (HBY.out _).mono ?_
              rintro e w3 ⟨vb, rfl, hob, hb3⟩
              obtain ⟨Ab, cb, rfl, _, _⟩ := own_form hob
              obtain ⟨gb, rfl, hgb1, hgb2, hgb3⟩ := own_at hob (by simp)
              have cb0 := hgb3 0 (.int .u8 (b : Int)) rfl
              have HB3 := Lib.hid hb3
              have HDQ3 := Lib.hid (HDQ.out.below hb3)
              have hg3 : X + 1 ≤ w3.heap.size := HDQ3.out.le
              obtain ⟨lb3, hlb3⟩ : ∃ q, (b :: bt).length = q := ⟨_, rfl⟩
              have hpos : (0 : Int) < (lb3 : Int) := by rw [← hlb3]; simp
              rw [hlb3]
              have HBX3 := Lib.hid (HBQ.out.trans (hb3.mono (by omega)))
              have HX3 := Lib.hid ((HBX3.out.block g (by omega)).trans HX6.out)
              obtain ⟨n0, n1, n2, n3, n4⟩ := netC (W := w3) (g := g) (v := v) HX3.out
              obtain ⟨b2, off2, A2, c2, xx', rfl, hb2, hx', d2, hr2⟩ := HDQ3.out.at_ hkos
              obtain rfl : xx = xx' := Option.some.inj (HXK'.out.symm.trans hx')
              have HWX : Hid (∀ X', Onto w3.drew X' → Below w.heap.size w X') := Lib.hid fun X' hX => by rw [HG.out]; exact (HGT.out.trans (HBX3.out.mono (by omega))).trans ((onto_drew hX).mono (by omega))
              have HST : Hid (∀ X', Onto w3.drew X' → Calls Try.prog 36 #[.agg (netA v), .slice A2 xx.length c2, .int .u8 (b : Int)] X' (Giv 3 1 intC X' (stepL N xx b))) := Lib.hid fun X' hX => rstep_any X' v N A2 xx.length c2 xx b hbl (HV.out.below (HWX.out X' hX)) (hr2.below (onto_drew hX)) (by omega) hxN HF.out
              obtain ⟨ts, hts⟩ : ∃ q, stepL N xx b = q := ⟨_, rfl⟩
              have HTS := Lib.hid hts
              rw [hts] at HST
              obtain ⟨xl, hxl⟩ : ∃ q, xx.length = q := ⟨_, rfl⟩
              rw [hxl] at d2 HST
              obtain ⟨ol, hol⟩ : ∃ q, os'.length = q := ⟨_, rfl⟩
              have HOL := Lib.hid hol
              clear hob hb3 hgb3 hlb3 hx' hr2 hts hgb1 hxl
              rw [hol]
              have hkol : (k : Int) < (ol : Int) := by omega
              clear hol
              go_wp2_with fail
              refine wp_region_fam_lit (E := Onto)
                [isV (.agg (netA v)),
                 isV (.slice (some ⟨b2, off2, none⟩) ol fc'),
                 isV (.int .i64 (k : Int)),
                 isV (.pointer (some ⟨b2, off2 + k, none⟩)),
                 isV (.slice A2 xl c2),
                 isV (.int .u8 (b : Int)),
                 gvI w3.heap.size ts,
                 gvI w3.heap.size ts]
                [some 56, some 57, some 58, some 59, some 60, some 61, some 62, some 13] (by kernel_rfl) rfl (by kernel_rfl) rfl Onto.trans Onto.refl ?monoS ?obS ?qS
              case monoS => exact ⟨isV_mono _ _, isV_mono _ _, isV_mono _ _, isV_mono _ _, isV_mono _ _, isV_mono _ _, gvI_mono _ _, gvI_mono _ _, trivial⟩
              case obS =>
                refine Obs.cons (j := 1) rfl ?_ ?_
                · refine Ob.free [(2, none)] (by kernel_rfl) (isV (.agg (netA v))) rfl rfl (fun a X hE hL => ?_)
                  simp [Seen, slotAt] at hL
                  have h2 := hL
                  rw [relAt_eq]
                  have f0 := keeps hE _ _ n0; have f1 := keeps hE _ _ n1; have f2 := keeps hE _ _ n2; have f3 := keeps hE _ _ n3; have f4 := keeps hE _ _ n4
                  go_simp
                  exact ⟨Onto.refl _, rfl⟩
                refine Obs.cons (j := 2) rfl ?_ ?_
                · refine Ob.free [(8, none)] (by kernel_rfl) (isV (.slice (some ⟨b2, off2, none⟩) ol fc')) rfl rfl (fun a X hE hL => ?_)
                  simp [Seen, slotAt] at hL
                  have h8 := hL
                  rw [relAt_eq]
                  go_simp
                  exact ⟨Onto.refl _, rfl⟩
                refine Obs.cons (j := 3) rfl ?_ ?_
                · refine Ob.free [(9, none)] (by kernel_rfl) (isV (.int .i64 (k : Int))) rfl rfl (fun a X hE hL => ?_)
                  simp [Seen, slotAt] at hL
                  have h9 := hL
                  rw [relAt_eq]
                  go_simp
                  exact ⟨Onto.refl _, rfl⟩
                refine Obs.cons (j := 4) rfl ?_ ?_
                · refine Ob.free [(57, some 1), (58, some 2)] (by kernel_rfl) (isV (.pointer (some ⟨b2, off2 + k, none⟩))) rfl rfl (fun a X hE hL => ?_)
                  simp [Seen, slotAt, famV, isV] at hL
                  obtain ⟨h57, h58⟩ := hL
                  rw [relAt_eq]
                  go_simp
                  exact ⟨Onto.refl _, rfl⟩
                refine Obs.cons (j := 5) rfl ?_ ?_
                · refine Ob.free [(59, some 3)] (by kernel_rfl) (isV (.slice A2 xl c2)) rfl rfl (fun a X hE hL => ?_)
                  simp [Seen, slotAt, famV, isV] at hL
                  have h59 := hL
                  rw [relAt_eq]
                  have f0 := keeps hE _ _ d2
                  go_simp
                  exact ⟨Onto.refl _, rfl⟩
                refine Obs.cons (j := 6) rfl ?_ ?_
                · refine Ob.free [(12, none)] (by kernel_rfl) (isV (.int .u8 (b : Int))) rfl rfl (fun a X hE hL => ?_)
                  simp [Seen, slotAt] at hL
                  have h12 := hL
                  rw [relAt_eq]
                  go_simp
                  exact ⟨Onto.refl _, rfl⟩
                refine Obs.cons (j := 7) rfl ?_ ?_
                · refine Ob.free [(56, some 0), (60, some 4), (61, some 5)] (by kernel_rfl) (gvI w3.heap.size ts) rfl rfl (fun a X hE hL => ?_)
                  simp [Seen, slotAt, famV, isV] at hL
                  obtain ⟨h56, h60, h61⟩ := hL
                  rw [relAt_eq]
                  go_simp
                  rw [relUpon_enter]
                  go_at_call 36
                  refine (HST.out X hE).mono ?_
                  rintro e Y ⟨A, c, rfl, ho, hY⟩
                  exact ⟨_, rfl, hY, A, c, rfl, own_mono ho (onto_drew hE).size⟩
                refine Obs.cons (j := 8) rfl ?_ ?_
                · refine Ob.free [(62, some 6)] (by kernel_rfl) (gvI w3.heap.size ts) rfl rfl (fun a X hE hL => ?_)
                  simp [Seen, slotAt, famV] at hL
                  have h62 := hL
                  rw [relAt_eq]
                  obtain ⟨A62, c62, e62, r62⟩ := h62
                  go_simp
                  exact ⟨Onto.refl _, A62, c62, rfl, r62⟩
                exact trivial
              case qS =>
                intro x wt hE hV
                simp [AllV, famV, isV] at hV
                obtain ⟨-, -, -, -, -, -, -, h13⟩ := hV
                simp only [puts, Act.put, List.setIfInBounds_toArray, List.set_cons_zero, List.set_cons_succ]
                generalize x 56 = y56
                generalize x 57 = y57
                generalize x 58 = y58
                generalize x 59 = y59
                generalize x 60 = y60
                generalize x 61 = y61
                generalize x 62 = y62
                generalize x 13 = y13 at h13 ⊢
                have hbt := onto_drew hE
                obtain ⟨At, ct, rfl, hot⟩ := h13
                have HBT3 := Lib.hid (HB3.out.trans (hbt.mono (by have := HB3.out.size; omega)))
                have hot' := own_mono hot (by have := HB3.out.size; omega : wr.heap.size ≤ w3.heap.size)
                have HOT := Lib.hid hot'
                have HXT := Lib.hid ((hbt.block g (by omega)).trans HX3.out)
                have HWT := Lib.hid (HWX.out wt hE)
                clear hE hbt hot hot' n0 n1 n2 n3 n4 d2 cb0 cw HST HDQ3 HX3 HBX3 HWX HBY HDXq hb2 hgb2 hpos
                go_upto_if 64 with (fail)
                go_cut [13] from 44 to 90 (fun s13 wc => ∃ (A : Option Addr) (ct nt : Nat) (tl : List Int), s13 = .slice A nt ct ∧ tl.length = nt ∧ toL N xx k c = tl ∧ wc.ownsRow wr.heap.size 3 1 (.slice A nt ct) nt (tl.flatMap intC) ∧ Below wr.heap.size wr wc)
                case first =>
                  by_cases hk0 : k = 0
                  case pos =>
                    have t0 : ((k : Int) == 0) = true := by rw [hk0]; rfl
                    have HTO2 : Hid (toL N xx k c = startL N b) := Lib.hid (by rw [HTO.out, if_pos hk0])
                    have HSA := Lib.hid (rstart_any wt v N b hbl (HV.out.below HWT.out) (by omega))
                    obtain ⟨n0, n1, n2, n3, n4⟩ := netC (W := wt) (g := g) (v := v) HXT.out
                    clear hk0 HOT
                    go_wp2_with fail
                    refine HSA.out.mono ?_
                    rintro e wt2 ⟨At2, ct2, rfl, hot2, hb2⟩
                    have HOT := Lib.hid (own_mono hot2 (HBT3.out.size))
                    have HBT4 := Lib.hid (HBT3.out.trans (hb2.mono HBT3.out.size))
                    clear hot2 hb2 n0 n1 n2 n3 n4 HSA
                    go_wp2_with fail
                    go_meet
                    exact ⟨At2, ct2, _, _, rfl, rfl, HTO2.out, HOT.out, HBT4.out⟩
                  case neg =>
                    have t0 : ((k : Int) == 0) = false := by rw [beq_eq_false_iff_ne]; omega
                    have HTL : Hid (toL N xx k c = ts) := Lib.hid (by rw [HTO.out, if_neg hk0, HTS.out])
                    clear hk0
                    go_wp2_with fail
                    go_meet
                    exact ⟨At, ct, _, ts, rfl, rfl, HTL.out, HOT.out, HBT3.out⟩
                case rest =>
                  clear HOT HBT3 HTS HTO HXT HWT
                  obtain ⟨At, ct, nt, tl, rfl, hnt, htl, hot, hbt⟩ := hcut
                  have HNT := Lib.hid hnt
                  have HTL := Lib.hid htl
                  have HBT3 := Lib.hid hbt
                  have HDT := Lib.hid (HDQ.out.add hbt (q := inn ⟨At, nt, ct, tl⟩) hot)
                  have HFI := Lib.hid (rfind_any wc (some ⟨b2, off2, none⟩) At os'.length nt fc' ct (os'.map Sl.xs) tl HDT.out.nrow (by have h := hot; rw [← hnt] at h ⊢; exact own_row intC_len h))
                  obtain ⟨fd, hfd⟩ : ∃ q, findL (os'.map Sl.xs) tl = q := ⟨_, rfl⟩
                  have HFD := Lib.hid hfd
                  have hfdb := findL_ge (os'.map Sl.xs) tl
                  rw [hfd, List.length_map, HOL.out] at hfdb
                  rw [hfd, HOL.out] at HFI
                  clear hnt hfd htl hot hbt
                  go_wp2_with fail
                  refine HFI.out.mono ?_
                  rintro e w5 ⟨rfl, hb5⟩
                  have HB5 := Lib.hid (HBT3.out.trans (hb5.mono HBT3.out.size))
                  have HD5 := Lib.hid (HDT.out.below hb5)
                  have HBX5 := Lib.hid (HBQ.out.trans (HB5.out.mono (by omega)))
                  have hg5 : X + 1 ≤ w5.heap.size := HD5.out.le
                  have holM : ol ≤ M := by rw [← HOL.out]; exact hosM'
                  clear hb5 HFI HDT
                  go_upto_if 73 with (fail)
                  go_cut [8, 14] from 44 to 90 (fun s8 s14 w' => ∃ (os'' : List (Sl Int)) (rest'' : List RowD) (z : Int), s14 = .int .i64 z ∧ DB (X + 1) X w' D s8 os'' nx lb (.slice ra c rc) r rest'' ∧ putF (os'.map Sl.xs) tl = os''.map Sl.xs ∧ atF (os'.map Sl.xs) tl = z ∧ os''.length ≤ M + 1 ∧ Below X W6 w')
                  case first =>
                    by_cases htl : nt = 0
                    case pos =>
                      have t1 : ((nt : Int) == 0) = true := by rw [htl]; rfl
                      have HP := Lib.hid (putF_nil (f := os'.map Sl.xs) (t := tl) (by rw [HNT.out]; exact htl))
                      clear htl
                      go_wp2_with fail
                      go_meet
                      exact ⟨os', _, -1, rfl, by have h := HD5.out; rw [HOL.out, hrlen] at h; exact h, HP.out.1, HP.out.2, by rw [HOL.out]; omega, HBX5.out⟩
                    case neg =>
                      have t1 : ((nt : Int) == 0) = false := by rw [beq_eq_false_iff_ne]; omega
                      by_cases hfn : fd < 0
                      case neg =>
                        have HP := Lib.hid (putF_old (f := os'.map Sl.xs) (t := tl) (by rw [HNT.out]; exact htl) (by rw [HFD.out]; exact hfn))
                        clear htl
                        go_wp2_with fail
                        go_meet
                        exact ⟨os', _, fd, rfl, by have h := HD5.out; rw [HOL.out, hrlen] at h; exact h, HP.out.1, by rw [HP.out.2, HFD.out], by rw [HOL.out]; omega, HBX5.out⟩
                      case pos =>
                        have HPF := Lib.hid (putF_new (f := os'.map Sl.xs) (t := tl) (by rw [HNT.out]; exact htl) (by rw [HFD.out]; exact hfn))
                        have HOF : Hid (w5.ownsRow (X + 1) 23 1 (.slice (some ⟨b2, off2, none⟩) ol fc') ol (os'.flatMap seC)) := Lib.hid (by rw [← HOL.out]; exact HD5.out.own.1)
                        have HAF := Lib.hid (app_sl HOF.out ⟨At, nt, ct, tl⟩ (by omega) hg5 w5.heap.size rfl)
                        clear htl
                        go_wp2_with (at_builtin; refine HAF.out _ _ _ _ _ rfl _ _ rfl rfl rfl ?_; intro gg cap w6 hownF hgrowF hatF; have HOB := Lib.hid hownF; have HGB := Lib.hid hgrowF; have HAT := Lib.hid hatF; clear hownF hgrowF hatF)
                        go_meet
                        have hin5 : inn ⟨At, nt, ct, tl⟩ ∈ rest' ++ [inn ⟨At, nt, ct, tl⟩] := List.mem_append_right _ (.head _)
                        have HD6 := HD5.out.put_f ((Below.refl w5.heap.size w5).alloc (Nat.le_refl _) (.cells #[.slice At nt ct] 23)) (by rw [HOL.out]; exact HGB.out) (v := .slice (some ⟨gg, 0, none⟩) (ol + 1) cap) (z := ⟨At, nt, ct, tl⟩) (by rw [HOL.out]; exact HOB.out) (by rw [HOL.out]; exact row_new HAT.out (by omega) rfl) ⟨hin5, HNT.out.symm⟩
                        have hb6 : Below X W6 _ := below_grown (HBX5.out.alloc (by omega) _) (by simp; omega) HGB.out (fun q hq => by have := (own_ge HOF.out hq).1; omega)
                        rw [hrlen] at HD6
                        exact ⟨os' ++ [⟨At, nt, ct, tl⟩], _, (ol : Int), rfl, HD6, by rw [HPF.out.1, List.map_append]; rfl, by rw [HPF.out.2, List.length_map, HOL.out], by rw [List.length_append, HOL.out]; simp; omega, hb6⟩
                  case rest =>
                    clear HD5 HBX5 HB5 hg5 HFD HBT3 holM
                    obtain ⟨os2, rest2, z, rfl, hd2, hp1, hp2, ho2, hb2⟩ := hcut
                    obtain ⟨fa2, fc2, rfl, _, _⟩ := own_form hd2.own.1
                    obtain ⟨ol2, hol2⟩ : ∃ q, os2.length = q := ⟨_, rfl⟩
                    have HOL2 := Lib.hid hol2
                    have HD5 := Lib.hid hd2
                    have HPF := Lib.hid (⟨hp1, hp2⟩ : _ ∧ _)
                    have HBX5 := Lib.hid hb2
                    have HDg5 := Lib.hid (HD26.out.below hb2 (by omega))
                    rw [hol2] at ho2 ⊢
                    clear hd2 hp1 hp2 hb2 hol2
                    by_cases hM4 : M < ol2
                    case pos =>
                      have t3 : (M : Int) < (ol2 : Int) := by omega
                      have HFAIL : Hid (buildR N (M : Int) = (ms0, 0, 16)) := Lib.hid (by rw [HE.out, outer_fail HUP.out HXK.out (c := c + 1) (by rw [HWID.out]; omega) (inner_fail HIN.out HTL.out HPF.out (by rw [List.length_map, HOL2.out]; exact hM4)) (by omega)]; rfl)
                      go_wp2_with (refine wpList_store_dfa rfl _ _ rfl (g + 1) zeroD zeroD rfl zv_dfa HDg5.out ?_; intro w9 hD9 hB9 hO9 hS9)
                      refine bodyPost_ret (results_dfa2 rfl _ _ (g + 1) zeroD _ _ rfl rfl rfl hD9) rfl ?_
                      rw [HFAIL.out]
                      exact ⟨zeroD, rfl, mat0 _, by first | exact (HGT.out.trans (HBX5.out.mono (by omega))).trans (hB9 g (by omega)) | (rw [HG.out]; exact (HGT.out.trans (HBX5.out.mono (by omega))).trans (hB9 g (by omega)))⟩
                    case neg =>
                      have t3 : ¬ ((M : Int) < (ol2 : Int)) := by omega
                      have HP := Lib.hid (inner_next HIN.out HTL.out HPF.out (by rw [List.length_map, HOL2.out]; omega))
                      have hg5 : X + 1 ≤ wc.heap.size := HD5.out.le
                      have HOR : Hid (wc.ownsRow (X + 1) 3 1 (.slice ra c rc) c (r.flatMap intC)) := Lib.hid (by have h := HD5.out.own.2.2.2; rw [hrlen] at h; exact h)
                      have HAP := Lib.hid (app_int HOR.out z (by omega) hg5 wc.heap.size rfl)
                      go_wp2_with (at_builtin; refine HAP.out _ _ _ _ _ rfl _ _ rfl rfl rfl ?_; intro gg5 cap5 w9 hownB hgrow hat; have HOB := Lib.hid hownB; have HGB := Lib.hid hgrow; have HAT := Lib.hid hat; clear hownB hgrow hat)
                      have HDN := Lib.hid (HD5.out.put_c ((Below.refl wc.heap.size wc).alloc (Nat.le_refl _) (.cells #[.int .i64 z] 3)) HGB.out (v := .slice (some ⟨gg5, 0, none⟩) (c + 1) cap5) (z := z) (by rw [hrlen]; exact HOB.out) (row_new HAT.out (by omega) rfl))
                      rw [HOL2.out] at HDN
                      have HBN : Hid (Below X W6 w9) := Lib.hid (below_grown (HBX5.out.alloc (by omega) _) (by simp; omega) HGB.out (fun q hq => by have := (own_ge HOR.out hq).1; omega))
                      go_roundg (wid - (c + 1))
                      case measure => omega
                      case rel => exact ⟨c + 1, _, _, _, by omega, rfl, HDN.out, HP.out, HBN.out⟩
theorem rbuild_any (w : World) (v : Nv) (N : NetS) (most : Int) (hv : NetAt w v N) (hs : v.sn ≤ 1000) (hf : ∀ l ∈ N.fol, l.length ≤ 1000) :
    Calls Try.prog 10 #[.agg (netA v), .int .i64 most] w fun e w' => ∃ D, e = .returned (.tuple #[.agg (dfA D), .int .i64 (buildR N most).2.1, .int .i64 (buildR N most).2.2]) ∧ MAt w' D (buildR N most).1 ∧ Below w.heap.size w w' :=
  rbuild_if w v N most hv fun _ => ⟨hs, hf⟩
end Go.Proofs.Ytmkgipoljbiocaa
/- The chapter's example: two expressions, their net, its table. -/
namespace Go.Proofs.Ytmkgipoljbiocaa
open Go.RowKit
set_option linter.unusedVariables false

def exT1 : RxT := .plus (.set fun x => x == 97)
def exT2 : RxT := .cat (.set fun x => x == 97) (.set fun x => x == 98)
def exS1 : ByteArray := ⟨#[97, 43]⟩
def exS2 : ByteArray := ⟨#[97, 98]⟩
theorem ex_txt1 : textF exS1 3 0 = some (post exT1, 2) := by kernel_rfl
theorem ex_txt2 : textF exS2 3 0 = some (post exT2, 2) := by kernel_rfl
theorem ex_chk1 : chkR (post exT1) = 0 := by kernel_rfl
theorem ex_chk2 : chkR (post exT2) = 0 := by kernel_rfl
def exN : NetS := fuseN [some exT1, some exT2]
def exSets : List (Nat → Bool) := [fun x => x == 97, fun x => x == 97, fun x => x == 98]
theorem exN_eq : exN = ⟨exSets, [0, 1, 1], [true, false, true], [[0], [2], []], [0, 1]⟩ := by kernel_rfl
theorem ex_wid : cnt (sigL exSets) 256 = 3 := by decide +kernel
theorem ex_f0 : firstB exSets 0 = 0 := by decide +kernel
theorem ex_f1 : firstB exSets 1 = 97 := by decide +kernel
theorem ex_f2 : firstB exSets 2 = 98 := by decide +kernel
def exNx : List (List Int) := [[-1, 1, -1], [-1, 2, 3], [-1, 2, -1], [-1, -1, -1]]
def exLb : List Int := [-1, 0, 0, 1]
def exF : List (List Int) := [[], [0, 1], [0], [2]]
def exN' : NetS := ⟨exSets, [0, 1, 1], [true, false, true], [[0], [2], []], [0, 1]⟩
theorem ex_net : netR exN' = true := by decide +kernel
theorem ex_out4 : outerUp exN' 50 4 = some (exF, exNx, exLb) := by decide +kernel
theorem ex_build : buildR exN 50 = (⟨clsL exSets, 3, exNx, exLb⟩, 4, 0) := by
  rw [exN_eq]
  have h := outer_end ex_out4 (by decide) 47
  show buildR exN' 50 = _
  unfold buildR
  rw [if_neg (by rw [ex_net]; decide), if_neg (by decide)]
  show tabR exN' (outerUp exN' 50 (4 + 47)) = _
  rw [h]
  show ((⟨clsL exSets, (cnt (sigL exSets) 256 : Int), exNx, exLb⟩ : MS), ((exF.length : Nat) : Int), (0 : Int)) = _
  rw [ex_wid]; rfl
def exM : MS := ⟨clsL exSets, 3, exNx, exLb⟩
theorem ex_right : rightM exM = true := by decide +kernel
end Go.Proofs.Ytmkgipoljbiocaa
/- The reader: Read, of a text that is one expression. -/
namespace Go.Proofs.Ytmkgipoljbiocaa
open Go.RowKit Go.PlainAid
set_option linter.unusedVariables false
set_option linter.unusedSimpArgs false

set_option maxHeartbeats 4000000 in
theorem read_any (s : ByteArray) (f : Nat) (l : List Rx) (m : Nat) (hs : s.size = m) (hm : m ≤ 1000) (h : textF s f 0 = some (l, m)) (hl : l.length ≤ 512) (w : World) :
    Calls Try.prog 24 #[.string s] w fun e w' => ∃ A c, e = .returned (.tuple #[.slice A l.length c, .int .i64 (m : Int), .int .i64 0]) ∧ w'.ownsRow w.heap.size 88 5 (.slice A l.length c) l.length (l.flatMap rxC) ∧ Below w.heap.size w w' := by
  have HT := Lib.hid (text_all s (by omega) f 0 w l m h)
  have HS := Lib.hid hs
  have z1 : ¬ 4096 < (s.size : Int) := by omega
  have z2 : ¬ 4096 < s.size := by omega
  have z3 : (s.size : Int) = (m : Int) := by omega
  have z4 : ¬ (m : Int) < (m : Int) := by omega
  have z5 : ¬ 512 < (l.length : Int) := by omega
  clear h hs
  go_enter Try.func24, Try.ntmps24
  go_wp2_with fail
  refine HT.out.mono ?_
  rintro e w2 ⟨A, c, rfl, ho, hb⟩
  have HO := Lib.hid ho
  have HB := Lib.hid hb
  clear ho hb
  go_wp2
  go_ret3
  exact ⟨A, c, rfl, HO.out, HB.out⟩
end Go.Proofs.Ytmkgipoljbiocaa
/- A text for a list: many.Key. -/
namespace Go.Proofs.Ytmkgipoljbiocaa
open Go.RowKit
set_option linter.unusedVariables false
set_option linter.unusedSimpArgs false

def u8C (x : UInt8) : List Value := [.int .u8 x.toNat]
theorem u8C_len (x : UInt8) : (u8C x).length = 1 := rfl
theorem u8C_one (x : UInt8) : ∀ u ∈ u8C x, u.oneCell' = true := fun u hu => by simp [u8C] at hu; subst hu; rfl
theorem infoByte : (Try.prog.info? 5).map (fun i => (i.zero, i.size, i.bytes)) = some (some (.int .u8 0), 1, 1) := by kernel_rfl
/-- The byte at a place of a number. -/
def byU (j i : Nat) : UInt8 := UInt8.ofNat (j / 2 ^ (8 * i))
/-- The first bytes of a number, the greatest one first: 8 less i. -/
def keyN (j : Nat) (i : Nat) : List UInt8 := (List.range (8 - i)).map fun k => byU j (7 - k)
theorem keyN_step (j i : Nat) (h : i < 8) : keyN j i = keyN j (i + 1) ++ [byU j i] := by
  unfold keyN
  rw [show 8 - i = (8 - (i + 1)) + 1 by omega, List.range_succ, List.map_append]
  simp only [List.map_cons, List.map_nil]
  rw [show 7 - (8 - (i + 1)) = i by omega]
def keyL (xs : List Int) : List UInt8 := xs.flatMap fun z => keyN z.toNat 0
theorem keyL_snoc (xs : List Int) (z : Int) : keyL (xs ++ [z]) = keyL xs ++ keyN z.toNat 0 := by simp [keyL]
theorem keyN_len (j i : Nat) : (keyN j i).length = 8 - i := by simp [keyN]
theorem keyL_len (xs : List Int) : (keyL xs).length = 8 * xs.length := by
  induction xs with
  | nil => rfl
  | cons x xs ih => simp only [keyL, List.flatMap_cons, List.length_append, keyN_len, List.length_cons] at ih ⊢; omega
theorem byU_nat (j i : Nat) : (byU j i).toNat = j / 2 ^ (8 * i) % 256 := by unfold byU; simp
theorem keyN_inj {a b : Nat} (ha : a < 2 ^ 64) (hb : b < 2 ^ 64) (h : keyN a 0 = keyN b 0) : a = b := by
  have key : ∀ i, i < 8 → a / 2 ^ (8 * i) % 256 = b / 2 ^ (8 * i) % 256 := by
    intro i hi
    have h1 := congrArg (fun l => l[7 - i]?) h
    simp only [keyN, List.getElem?_map, List.getElem?_range (show 7 - i < 8 - 0 by omega), Option.map_some, Option.some.injEq] at h1
    rw [show 7 - (7 - i) = i by omega] at h1
    have := congrArg UInt8.toNat h1
    rwa [byU_nat, byU_nat] at this
  have k0 := key 0 (by omega)
  have k1 := key 1 (by omega)
  have k2 := key 2 (by omega)
  have k3 := key 3 (by omega)
  have k4 := key 4 (by omega)
  have k5 := key 5 (by omega)
  have k6 := key 6 (by omega)
  have k7 := key 7 (by omega)
  simp only [Nat.reduceMul, Nat.reducePow] at k0 k1 k2 k3 k4 k5 k6 k7 ha hb
  omega
theorem keyL_inj : ∀ {xs ys : List Int}, (∀ z ∈ xs, 0 ≤ z ∧ z < 9223372036854775808) → (∀ z ∈ ys, 0 ≤ z ∧ z < 9223372036854775808) → keyL xs = keyL ys → xs = ys
  | [], [], _, _, _ => rfl
  | [], y :: ys, _, _, h => by have := congrArg List.length h; rw [keyL_len, keyL_len] at this; simp at this
  | x :: xs, [], _, _, h => by have := congrArg List.length h; rw [keyL_len, keyL_len] at this; simp at this
  | x :: xs, y :: ys, hx, hy, h => by
    simp only [keyL, List.flatMap_cons] at h
    have h1 := List.append_inj h (by rw [keyN_len, keyN_len])
    have hx0 := hx x (.head _)
    have hy0 := hy y (.head _)
    have e := keyN_inj (by omega) (by omega) h1.1
    have e2 := keyL_inj (fun z hz => hx z (.tail _ hz)) (fun z hz => hy z (.tail _ hz)) h1.2
    rw [e2, show x = y by omega]
def strK (l : List UInt8) : ByteArray := ⟨l.toArray⟩
theorem app_u8 {w : World} {base n : Nat} {v : Value} {os : List UInt8} (hown : w.ownsRow base 5 1 v n (os.flatMap u8C)) (z : UInt8) (hn : n ≤ 1000000) (hbase : base ≤ w.heap.size) (H : Nat) (hH : w.heap.size = H)
    (ops : Array Oper) (rest : List Oper) (o : Oper) (a : Act) (Q : Exit → Act → World → Prop) (hg : o.guard = none) (s x : Operand) (ho : o.op = .call { callee := .builtin .append, args := #[s, x], argTypes := #[61, 61] })
    (hs : a.eval s = v) (hx : a.eval x = .slice (some ⟨H, 0, none⟩) 1 1)
    (h : ∀ g cap w', w'.ownsRow base 5 1 (.slice (some ⟨g, 0, none⟩) (n + 1) cap) (n + 1) ((os ++ [z]).flatMap u8C) → (w.alloc (.cells #[.int .u8 z.toNat] 5)).grownBy w' v.ownBlock → (v.ownBlock = some g ∨ g = H + 1) →
      wpList Try.prog ops Q rest (a.put o.dst (.slice (some ⟨g, 0, none⟩) (n + 1) cap)) w') : wpList Try.prog ops Q (o :: rest) a (w.alloc (.cells #[.int .u8 z.toNat] 5)) :=
  app_el (P := Try.prog) (C := u8C) (T := 61) (by decide) u8C_len u8C_one Try.underlying61 infoByte rfl hown z (by unfold maxLen; omega) (by omega) hbase H hH #[.int .u8 z.toNat] rfl ops rest o a Q hg s x ho hs hx h
theorem flat_u8 (l : List UInt8) : l.flatMap u8C = Lib.byteCells l := by
  induction l with
  | nil => rfl
  | cons x l ih => simp only [List.flatMap_cons, ih]; rfl
theorem conv_u8 {W : World} {base n : Nat} {v : Value} {l : List UInt8} (h : W.ownsRow base 5 1 v n (l.flatMap u8C)) : (convert 61 9 v).run Try.prog W = .ok (.string (strK l)) W := by
  rw [flat_u8] at h
  rcases h.2 with ⟨rfl, h0⟩ | ⟨g, cap, cur, rfl, hb, hg, hn, hm, hsz, htk⟩
  · have hl : l = [] := by have := h.1; rw [h0] at this; simp [Lib.byteCells] at this; exact this
    subst hl
    exact Lib.run_convert_nil_bytes W 61 9 5 0 Try.underlying61 Try.underlying5 Try.underlying9
  · have hn2 : l.length = n := by have := h.1; rw [Lib.byteCells_length] at this; omega
    subst hn2
    exact run_convert_bytes_back (P := Try.prog) W 61 9 5 ⟨g, 0, none⟩ cap l Try.underlying61 Try.underlying5 Try.underlying9 (by
      intro j hj
      have e : (⟨g, 0, none⟩ : Addr).add j = ⟨g, j, none⟩ := by unfold Addr.add; split <;> simp_all
      rw [e, cell_of_row W g j _ _ _ hg]
      have h1 : (cur.toList.take (l.length * 1))[j]? = (Lib.byteCells l)[j]? := by rw [htk]
      rw [List.getElem?_take_of_lt (by omega)] at h1
      rw [← Array.getElem?_toList, h1]
      simp [Lib.byteCells, List.getElem?_eq_getElem hj])
set_option maxRecDepth 10000 in
set_option maxHeartbeats 4000000 in
theorem key_any (w : World) (a : Option Addr) (n c : Nat) (xs : List Int) (h : CRow intC 1 w a n xs) (hr : ∀ z ∈ xs, 0 ≤ z ∧ z < 9223372036854775808) (hn : n ≤ 100000) :
    Calls Try.prog 28 #[.slice a n c] w fun e w' => e = .returned (.string (strK (keyL xs))) ∧ Below w.heap.size w w' := by
  have HH := Lib.hid h
  have HL := Lib.hid h.1
  have HR := Lib.hid hr
  clear h hr
  go_enter Try.func28, Try.ntmps28
  go_wp2
  go_loopw [3, 9] (fun bv i wr => ∃ (k : Nat), k ≤ n ∧ i = .int .i64 (k : Int) ∧ wr.ownsRow w.heap.size 5 1 bv (8 * k) ((keyL (xs.take k)).flatMap u8C) ∧ Below w.heap.size w wr) (fun _ i _ => n - (intOf i).toNat)
  case atStart => exact ⟨0, by omega, rfl, World.ownsRow_nil _ _ _ _, Below.refl _ _⟩
  case round =>
    obtain ⟨k, hk, rfl, hown, hbw⟩ := hrel
    have HOW := Lib.hid hown
    have HBW := Lib.hid hbw
    obtain ⟨A, cc, rfl, _, _⟩ := own_form hown
    by_cases hlt : k < n
    case neg =>
      have z1 : ¬ (k : Int) < (n : Int) := by omega
      have hcv := conv_u8 hown
      have HF : Hid (xs.take k = xs) := Lib.hid (List.take_of_length_le (by rw [HL.out]; omega))
      rw [HF.out] at hcv
      clear hown hbw
      go_wp2
      go_ret
      exact ⟨rfl, HBW.out⟩
    case pos =>
      obtain ⟨b1, off1, z, rfl, hb1, hz, c0⟩ := (HH.out.below hbw).int hlt
      obtain ⟨hz0, hz1⟩ := HR.out z (List.mem_of_getElem? hz)
      obtain ⟨j, rfl⟩ : ∃ j : Nat, z = (j : Int) := ⟨z.toNat, by omega⟩
      have HTK : Hid (keyL (xs.take (k + 1)) = keyL (xs.take k) ++ keyN j 0) := Lib.hid (by rw [take_snoc hz, keyL_snoc, Int.toNat_natCast])
      have y0 : (0 : Int) ≤ (k : Int) := by omega
      have y1 : (k : Int) < (n : Int) := by omega
      obtain ⟨done, hdone⟩ : ∃ x, keyL (xs.take k) = x := ⟨_, rfl⟩
      rw [hdone] at HOW HTK
      clear hown hz hbw hdone
      go_wp2_with fail
      clear c0 hb1
      obtain ⟨wo, rfl⟩ : ∃ x, x = wr := ⟨_, rfl⟩
      go_loopw [3, 6] (fun bv sv wr => ∃ (i : Nat), i ≤ 8 ∧ sv = .int .i64 (8 * (i : Int) - 8) ∧ wr.ownsRow w.heap.size 5 1 bv (8 * k + (8 - i)) ((done ++ keyN j i).flatMap u8C) ∧ Below w.heap.size w wr) (fun _ sv _ => (intOf sv + 8).toNat)
      case atStart => exact ⟨8, by omega, rfl, by simpa [keyN] using HOW.out, HBW.out⟩
      case round =>
        obtain ⟨i, hi, rfl, hown, hbw⟩ := hrel
        have HOWI := Lib.hid hown
        have HBWI := Lib.hid hbw
        obtain ⟨A2, c2, rfl, _, _⟩ := own_form hown
        cases i with
        | zero =>
          clear hown hbw
          go_wp2
          go_roundw
          case rel => exact ⟨k + 1, by omega, by go_num, by rw [HTK.out]; exact HOWI.out, HBWI.out⟩
          case measure => simp [intOf]; omega
        | succ i =>
          have hsz : w.heap.size ≤ wr.heap.size := hbw.size
          have hln : 8 * k + (8 - (i + 1)) ≤ 1000000 := by omega
          obtain ⟨ln, hlnE⟩ : ∃ x, 8 * k + (8 - (i + 1)) = x := ⟨_, rfl⟩
          rw [hlnE] at HOWI hln ⊢
          have HLN := Lib.hid hlnE
          have HAP := Lib.hid (app_u8 HOWI.out (byU j i) hln hsz wr.heap.size rfl)
          have z3 : (0 : Int) ≤ 8 * ((i + 1 : Nat) : Int) - 8 := by omega
          have hsv : 8 * ((i + 1 : Nat) : Int) - 8 = ((8 * i : Nat) : Int) := by omega
          rw [hsv] at z3 ⊢
          obtain ⟨sh, hsh⟩ : ∃ x, 8 * i = x := ⟨_, rfl⟩
          rw [hsh] at z3 ⊢
          have HSH := Lib.hid hsh
          have hs64 : sh < 64 := by omega
          clear hsv hsh
          clear hown hbw hlnE
          have hby : ((byU j i).toNat : Int) = (j : Int) / 2 ^ sh % 256 := by rw [byU_nat, HSH.out]; simp
          rw [hby] at HAP
          have HOS := Lib.hid hsz
          clear hby
          go_wp2_with (at_builtin; refine HAP.out _ _ _ _ _ rfl _ _ rfl rfl rfl ?_; intro gg cap w5 hownB hgrow hat; have HOB := Lib.hid hownB; have HB5 := Lib.hid (below_grown (HBWI.out.alloc HOS.out (.cells #[.int .u8 ((j : Int) / 2 ^ sh % 256)] 5)) (by have := HOS.out; simp; omega) hgrow (fun q hq => (own_ge HOWI.out hq).1)); clear hownB hgrow hat)
          go_roundw
          case rel => exact ⟨i, by omega, by have := HSH.out; first | (congr 1; omega) | go_num, by rw [keyN_step j i (by omega), ← List.append_assoc, show 8 * k + (8 - i) = ln + 1 by have := HLN.out; omega]; exact HOB.out, HB5.out⟩
          case measure => have := HSH.out; simp [intOf]; omega
end Go.Proofs.Ytmkgipoljbiocaa
/- A map from texts to numbers: which it holds, in the order in which they came. -/
namespace Go.Proofs.Ytmkgipoljbiocaa
open Go.RowKit
set_option linter.unusedVariables false

/-- The entries: the text at place i has the number i + 1. -/
def entsS : Nat → List ByteArray → List MapEntry
  | _, [] => []
  | i, s :: t => { key := .string s, val := .int .i64 ((i : Int) + 1), born := i } :: entsS (i + 1) t
theorem entsS_len : ∀ i l, (entsS i l).length = l.length
  | _, [] => rfl
  | i, p :: t => by simp [entsS, entsS_len (i + 1) t]
theorem entsS_snoc : ∀ i l s, entsS i (l ++ [s]) = entsS i l ++ [{ key := .string s, val := .int .i64 (((i + l.length : Nat) : Int) + 1), born := i + l.length }]
  | i, [], s => by simp [entsS]
  | i, q :: t, s => by
    simp only [List.cons_append, entsS, entsS_snoc (i + 1) t s, List.length_cons]
    rw [show i + 1 + t.length = i + (t.length + 1) by omega]
def findS (s : ByteArray) : Nat → List ByteArray → Option Nat
  | _, [] => none
  | i, q :: t => if s = q then some i else findS s (i + 1) t
def SMap (w : World) (g : Nat) (l : List ByteArray) : Prop := w.heap[g]? = some (.map (entsS 0 l).toArray l.length)
theorem SMap.lt {w : World} {g : Nat} {l : List ByteArray} (h : SMap w g l) : g < w.heap.size := (Array.getElem?_eq_some_iff.1 h).1
theorem ba_beq (a b : ByteArray) : (a == b) = decide (a = b) := by
  obtain ⟨x⟩ := a
  obtain ⟨y⟩ := b
  show (x == y) = _
  rw [Bool.eq_iff_iff, beq_iff_eq, decide_eq_true_eq]
  exact ⟨fun h => by rw [h], fun h => congrArg ByteArray.data h⟩
theorem findNow_s (s : ByteArray) : ∀ (l : List ByteArray) (i : Nat), Instr.findNow .string (.string s) (entsS i l) i = some ((findS s i l).map fun (k : Nat) => (k, Value.int .i64 ((k : Int) + 1)))
  | [], i => rfl
  | q :: t, i => by
    simp only [entsS, Instr.findNow, Instr.sameNow, findS]
    by_cases h : s = q
    · subst h; rw [ba_beq]; simp
    · rw [ba_beq, decide_eq_false h, if_neg h]
      exact findNow_s s t (i + 1)
theorem run_findKey_s (s : ByteArray) (l : List ByteArray) (w : World) : (Instr.findKey 9 (.string s) (entsS 0 l)).run Try.prog w = .ok ((findS s 0 l).map fun (k : Nat) => (k, Value.int .i64 ((k : Int) + 1))) w := by
  unfold Instr.findKey
  simp only [Sem.run_bind, run_underlying Try.underlying9 w, Result.andThen_ok]
  rw [findNow_s]
  rfl
theorem run_check_s (e : Bool) (s : ByteArray) (w : World) : (Instr.checkKey e 10000 9 (.string s)).run Try.prog w = .ok () w := by
  obtain ⟨n, hn⟩ : ∃ n, 10000 = n + 1 := ⟨9999, rfl⟩
  rw [hn]
  simp only [Instr.checkKey, Sem.run_bind, run_underlying Try.underlying9 w, Result.andThen_ok]
  rfl
theorem run_lookup_s (s : ByteArray) (l : List ByteArray) (g : Nat) (w : World) (h : SMap w g l) : (Instr.lookup 57 (.map (some g)) (.string s) true).run Try.prog w =
    .ok (.tuple #[.int .i64 (match findS s 0 l with | some k => (k : Int) + 1 | none => 0), .bool (findS s 0 l).isSome]) w := by
  have hz : (zeroValue 3).run Try.prog w = .ok (.int .i64 0) w := by kernel_rfl
  unfold SMap at h
  unfold Instr.lookup
  simp only [Sem.run_bind, run_underlying Try.underlying57 w, Result.andThen_ok, getObj, Sem.run, h, run_check_s, Sem.run_pure]
  rw [run_findKey_s]
  simp only [Result.andThen_ok]
  cases findS s 0 l with
  | none =>
    simp only [Option.map_none, Sem.run_bind, hz, Result.andThen_ok, Sem.run_pure]
    rfl
  | some k =>
    simp only [Option.map_some, Sem.run_bind, Result.andThen_ok, Sem.run_pure]
    rfl
theorem run_update_s (s : ByteArray) (l : List ByteArray) (g : Nat) (w : World) (h : SMap w g l) (hn : findS s 0 l = none) :
    (Instr.mapUpdate 57 (.map (some g)) (.string s) (.int .i64 ((l.length : Int) + 1))).run Try.prog w = .ok () { w with heap := w.heap.setIfInBounds g (.map (entsS 0 (l ++ [s])).toArray (l ++ [s]).length) } := by
  unfold SMap at h
  unfold Instr.mapUpdate
  simp only [Sem.run_bind, run_underlying Try.underlying57 w, Result.andThen_ok, getObj, Sem.run, h, run_check_s]
  rw [run_findKey_s, hn]
  simp only [Option.map_none, Result.andThen_ok, setObj, Sem.run, h]
  rw [entsS_snoc]
  simp
/-! ## Keys of lists. -/
def keyB (t : List Int) : ByteArray := strK (keyL t)
theorem keyB_inj {xs ys : List Int} (hx : ∀ z ∈ xs, 0 ≤ z ∧ z < 9223372036854775808) (hy : ∀ z ∈ ys, 0 ≤ z ∧ z < 9223372036854775808) (h : keyB xs = keyB ys) : xs = ys := by
  unfold keyB strK at h
  have : (keyL xs).toArray = (keyL ys).toArray := congrArg ByteArray.data h
  exact keyL_inj hx hy (List.toArray_inj this)
theorem findS_find {t : List Int} (ht : ∀ z ∈ t, 0 ≤ z ∧ z < 9223372036854775808) : ∀ (f : List (List Int)) (i : Nat), (∀ y ∈ f, ∀ z ∈ y, 0 ≤ z ∧ z < 9223372036854775808) →
    findL f t = (match findS (keyB t) i (f.map keyB) with | some k => (k : Int) - (i : Int) | none => -1) ∧ ∀ k, findS (keyB t) i (f.map keyB) = some k → i ≤ k
  | [], i, _ => ⟨rfl, fun k h => by simp [findS] at h⟩
  | y :: f, i, hf => by
    obtain ⟨h1, h2⟩ := findS_find ht f (i + 1) (fun y hy => hf y (.tail _ hy))
    simp only [findL, List.map_cons, findS]
    by_cases e : y = t
    · subst e
      rw [if_pos rfl, if_pos rfl]
      exact ⟨by simp, fun k hk => by simp at hk; omega⟩
    · have hne : ¬ keyB t = keyB y := fun h => e (keyB_inj (hf y (.head _)) ht h.symm)
      simp only [if_neg e, if_neg hne]
      rw [h1]
      cases hk : findS (keyB t) (i + 1) (f.map keyB) with
      | none => simp
      | some k =>
        have := h2 k hk
        simp only
        refine ⟨?_, fun k' hk' => ?_⟩
        · rw [if_neg (by omega)]; omega
        · simp only [Option.some.injEq] at hk'; omega
end Go.Proofs.Ytmkgipoljbiocaa
/- The lists found so far, with their numbers: dfa.Build's closure. -/
namespace Go.Proofs.Ytmkgipoljbiocaa
open Go.RowKit
set_option linter.unusedVariables false
set_option linter.unusedSimpArgs false

theorem DB.keepT {B X : Nat} {w w' : World} {D : Df} {fv : Value} {os nx : List (Sl Int)} {lb : List Int} {rv : Value} {r : List Int} {rest : List RowD} (h : DB B X w D fv os nx lb rv r rest) (hri : ∀ q ∈ rest, q.e = 3)
    (hk : ∀ (k : Nat) (cur : Array Value) (t : TypeId), w.heap[k]? = some (.cells cur t (0, 0)) → (t = 3 ∨ t = 23 ∨ t = 32) → w'.heap[k]? = w.heap[k]?) (hs : w.heap.size ≤ w'.heap.size) : DB B X w' D fv os nx lb rv r rest := by
  refine ⟨(hk X _ _ h.box (.inr (.inr rfl))).trans h.box, ⟨fun q hq => ?_, h.rows.apart⟩, h.memf, h.memn, h.lt, by have := h.le; omega⟩
  refine own_keep (h.rows.own q hq) fun k cur _ hc => hk k cur _ hc ?_
  rcases List.mem_append.1 hq with hq | hq
  · simp only [base4, List.mem_cons, List.not_mem_nil, or_false] at hq
    rcases hq with rfl | rfl | rfl | rfl
    · exact .inr (.inl rfl)
    · exact .inr (.inl rfl)
    · exact .inl rfl
    · exact .inl rfl
  · exact .inl (hri q hq)
/-- A machine while it is made; the lists found so far in a box; their numbers in a map. -/
structure PB (B X XA XM mb : Nat) (w : World) (D : Df) (fv : Value) (os nx : List (Sl Int)) (lb : List Int) (rv : Value) (r : List Int) (rest : List RowD) : Prop where
  db : DB B X w D fv os nx lb rv r rest
  all_ : w.heap[XA]? = some (.cells #[fv] 25 (0, 0))
  mbx : w.heap[XM]? = some (.cells #[.map (some mb)] 57 (0, 0))
  mp : SMap w mb ((os.drop 1).map fun o => keyB o.xs)
  ri : ∀ q ∈ rest, q.e = 3
  hd : ∃ o0 t, os = o0 :: t ∧ o0.xs = []
  bA : B ≤ XA
  bM : B ≤ mb
  bX : B ≤ XM
theorem PB.below {B X XA XM mb : Nat} {w w' : World} {D : Df} {fv : Value} {os nx : List (Sl Int)} {lb : List Int} {rv : Value} {r : List Int} {rest : List RowD} (h : PB B X XA XM mb w D fv os nx lb rv r rest) (hb : Below w.heap.size w w') : PB B X XA XM mb w' D fv os nx lb rv r rest :=
  ⟨h.db.below hb, (hb.block XA (Array.getElem?_eq_some_iff.1 h.all_).1).trans h.all_, (hb.block XM (Array.getElem?_eq_some_iff.1 h.mbx).1).trans h.mbx, (hb.block mb h.mp.lt).trans h.mp, h.ri, h.hd, h.bA, h.bM, h.bX⟩
theorem PB.add {B X XA XM mb : Nat} {w w' : World} {D : Df} {fv : Value} {os nx : List (Sl Int)} {lb : List Int} {rv : Value} {r : List Int} {rest : List RowD} (h : PB B X XA XM mb w D fv os nx lb rv r rest) (hb : Below w.heap.size w w') {q : RowD} (hq : q.e = 3) (hr : w'.ownsRow w.heap.size q.e q.k q.v q.n q.xs) : PB B X XA XM mb w' D fv os nx lb rv r (rest ++ [q]) := by
  have h' := h.below hb
  exact ⟨h.db.add hb hr, h'.all_, h'.mbx, h'.mp, fun q' hq' => by rcases List.mem_append.1 hq' with h1 | h1; exact h.ri q' h1; rw [List.mem_singleton] at h1; subst h1; exact hq, h.hd, h.bA, h.bM, h.bX⟩
theorem PB.apart_row {B X XA XM mb : Nat} {w : World} {D : Df} {fv : Value} {os nx : List (Sl Int)} {lb : List Int} {rv : Value} {r : List Int} {rest : List RowD} (h : PB B X XA XM mb w D fv os nx lb rv r rest) {e : TypeId} {v : Value} {n k : Nat} {xs : List Value} (ho : w.ownsRow B e k v n xs) (he : e = 3 ∨ e = 23) : some XA ≠ v.ownBlock ∧ some XM ≠ v.ownBlock ∧ some mb ≠ v.ownBlock := by
  refine ⟨fun e' => ?_, fun e' => ?_, fun e' => ?_⟩
  · obtain ⟨cur, hc⟩ := own_obj ho e'.symm
    rcases he with rfl | rfl <;> exact obj_ne h.all_ hc (by decide) rfl
  · obtain ⟨cur, hc⟩ := own_obj ho e'.symm
    rcases he with rfl | rfl <;> exact obj_ne h.mbx hc (by decide) rfl
  · obtain ⟨cur, hc⟩ := own_obj ho e'.symm
    have := (show w.heap[mb]? = _ from h.mp).symm.trans hc
    cases this
/-- A list more is found. -/
theorem PB.put {B X XA XM mb : Nat} {w wa w1 : World} {D : Df} {fv : Value} {os nx : List (Sl Int)} {lb : List Int} {rv : Value} {r : List Int} {rest : List RowD} (h : PB B X XA XM mb w D fv os nx lb rv r rest) {wm : World} {z : Sl Int}
    (hm : SMap wm mb ((os.drop 1).map (fun o => keyB o.xs) ++ [keyB z.xs])) (hmk : ∀ k, k ≠ mb → wm.heap[k]? = w.heap[k]?) (hms : wm.heap.size = w.heap.size) (hb : Below wm.heap.size wm wa) (hg : wa.grownBy w1 fv.ownBlock) {v : Value}
    (ho : w1.ownsRow B 23 1 v (os.length + 1) ((os ++ [z]).flatMap seC)) (hv : v.ownBlock = fv.ownBlock ∨ ∃ b, v.ownBlock = some b ∧ w.heap.size ≤ b) (hz : inn z ∈ rest ∧ z.l = z.xs.length) :
    PB B X XA XM mb (w1.setCell ⟨XA, 0, none⟩ v) D v (os ++ [z]) nx lb rv r rest := by
  have hdm : DB B X wm D fv os nx lb rv r rest := h.db.keepT h.ri (fun k cur t hc ht => hmk k (fun e => by subst e; have := (show w.heap[k]? = _ from h.mp).symm.trans hc; cases this)) (by omega)
  have hrow := h.apart_row h.db.own.1 (.inr rfl)
  have hXA : XA < w.heap.size := (Array.getElem?_eq_some_iff.1 h.all_).1
  have hXM : XM < w.heap.size := (Array.getElem?_eq_some_iff.1 h.mbx).1
  have hmbl := h.mp.lt
  have nAm : XA ≠ mb := fun e => by have h1 := h.all_; rw [e] at h1; have := (show w.heap[mb]? = _ from h.mp).symm.trans h1; cases this
  have nMm : XM ≠ mb := fun e => by have h1 := h.mbx; rw [e] at h1; have := (show w.heap[mb]? = _ from h.mp).symm.trans h1; cases this
  have nMA : XM ≠ XA := fun e => obj_ne h.mbx h.all_ (by decide) e
  have up : ∀ k, k < w.heap.size → some k ≠ fv.ownBlock → w1.heap[k]? = wm.heap[k]? := fun k hk hne => (hg.block k (by have := hb.size; omega) hne).trans (hb.block k (by omega))
  have hA1 : w1.heap[XA]? = some (.cells #[fv] 25 (0, 0)) := (up XA hXA hrow.1).trans ((hmk XA nAm).trans h.all_)
  have hM1 : w1.heap[XM]? = some (.cells #[.map (some mb)] 57 (0, 0)) := (up XM hXM hrow.2.1).trans ((hmk XM nMm).trans h.mbx)
  have hm1 : SMap w1 mb ((os.drop 1).map (fun o => keyB o.xs) ++ [keyB z.xs]) := (up mb hmbl hrow.2.2).trans hm
  have hd1 := hdm.put_f hb hg ho (by rw [hms]; exact hv) hz
  refine ⟨hd1.keepT h.ri (fun k cur t hc ht => heap_setCell_other _ _ _ _ (fun e => ?_)) (by simp), ?_, (heap_setCell_other _ _ _ _ nMA).trans hM1, ?_, h.ri, ?_, h.bA, h.bM, h.bX⟩
  · have e' : k = XA := e
    subst e'
    have h1 := hA1.symm.trans hc
    have h2 := Option.some.inj h1
    injection h2 with _ h3 _
    rcases ht with rfl | rfl | rfl <;> exact absurd h3 (by decide)
  · exact heap_setCell_same w1 XA 0 _ _ _ hA1
  · have : (((os ++ [z]).drop 1).map fun o => keyB o.xs) = (os.drop 1).map (fun o => keyB o.xs) ++ [keyB z.xs] := by
      obtain ⟨o0, t, rfl, _⟩ := h.hd
      simp
    rw [this]
    exact (heap_setCell_other _ _ _ _ (fun e => nAm e.symm)).trans hm1
  · obtain ⟨o0, t, rfl, h2⟩ := h.hd
    exact ⟨o0, t ++ [z], rfl, h2⟩
/-- Where a list stands among those found. -/
theorem PB.find {os : List (Sl Int)} {t : List Int} (hd : ∃ o0 s, os = o0 :: s ∧ o0.xs = []) (ht : ∀ z ∈ t, 0 ≤ z ∧ z < 9223372036854775808) (hos : ∀ o ∈ os, ∀ z ∈ o.xs, 0 ≤ z ∧ z < 9223372036854775808) (hn : t ≠ []) :
    findL (os.map Sl.xs) t = match findS (keyB t) 0 ((os.drop 1).map fun o => keyB o.xs) with | some k => (k : Int) + 1 | none => -1 := by
  obtain ⟨o0, s, rfl, h0⟩ := hd
  have h1 := (findS_find ht (s.map Sl.xs) 0 (fun y hy => by obtain ⟨o, ho, rfl⟩ := List.mem_map.1 hy; exact hos o (.tail _ ho))).1
  rw [List.map_map] at h1
  simp only [List.map_cons, findL, List.drop_succ_cons, List.drop_zero]
  rw [if_neg (by rw [h0]; exact fun e => hn e.symm), h1]
  have e : (fun o : Sl Int => keyB o.xs) = keyB ∘ Sl.xs := rfl
  rw [e]
  cases findS (keyB t) 0 (s.map (keyB ∘ Sl.xs)) with
  | none => simp
  | some k => simp only; rw [if_neg (by omega)]; omega
theorem wpList_update_s {ops : Array Oper} {rest : List Oper} {o : Oper} {a : Act} {w : World} {Q : Exit → Act → World → Prop} (hgd : o.guard = none) (m k v : Operand) (ho : o.op = .mapUpdate 57 m k v)
    (s : ByteArray) (l : List ByteArray) (z : Int) (hz : z = (l.length : Int) + 1) (g : Nat) (hm : a.eval m = .map (some g)) (hk : a.eval k = .string s) (hv : a.eval v = .int .i64 z) (h : SMap w g l) (hn : findS s 0 l = none)
    (hK : ∀ w', SMap w' g (l ++ [s]) → (∀ B, B ≤ g → Below B w w') → (∀ k, k ≠ g → w'.heap[k]? = w.heap[k]?) → w'.heap.size = w.heap.size → wpList Try.prog ops Q rest (a.put o.dst undef) w') : wpList Try.prog ops Q (o :: rest) a w := by
  subst hz
  refine wpList_plain hgd fun K hKK => ?_
  unfold Oper.wp execOp
  simp only [ho, hm, hk, hv, Sem.run_bind, run_update_s s l g w h hn, Result.andThen_ok, Sem.run_pure]
  have hlt := h.lt
  refine hKK _ _ (hK _ ?_ (fun B hB => ⟨rfl, rfl, rfl, by simp, fun k hk => ?_⟩) (fun k hk => ?_) (by simp))
  · unfold SMap; simp [hlt]
  · rw [Array.getElem?_setIfInBounds, if_neg (by omega)]
  · rw [Array.getElem?_setIfInBounds, if_neg (fun e => hk e.symm)]
set_option maxRecDepth 10000 in
set_option maxHeartbeats 4000000 in
theorem bnum_any (w w0 : World) (B X XA XM mb : Nat) (D : Df) (fv : Value) (os nx : List (Sl Int)) (lb : List Int) (rv : Value) (r : List Int) (rest : List RowD) (tA : Option Addr) (tn tc : Nat) (t : List Int)
    (h : PB B X XA XM mb w D fv os nx lb rv r rest) (hin : inn ⟨tA, tn, tc, t⟩ ∈ rest) (htn : tn = t.length) (ht : ∀ z ∈ t, 0 ≤ z ∧ z < 9223372036854775808) (hos : ∀ o ∈ os, ∀ z ∈ o.xs, 0 ≤ z ∧ z < 9223372036854775808) (htl : t.length ≤ 100000) (hol : os.length ≤ 100000) (hbw : Below X w0 w) :
    Calls Try.prog 27 #[.slice tA tn tc, .pointer (some ⟨XM, 0, none⟩), .pointer (some ⟨XA, 0, none⟩)] w fun e w' => e = .returned (.int .i64 (atF (os.map Sl.xs) t)) ∧
      ∃ fv' os', PB B X XA XM mb w' D fv' os' nx lb rv r rest ∧ os'.map Sl.xs = putF (os.map Sl.xs) t ∧ (∀ o ∈ os', o ∈ os ∨ o.xs = t) ∧ Below X w0 w' := by
  subst htn
  by_cases hnil : t = []
  case pos =>
    have HP := Lib.hid (putF_nil (f := os.map Sl.xs) (t := t) (by rw [hnil]; rfl))
    have hz : t.length = 0 := by rw [hnil]; rfl
    have z0 : (t.length : Int) = 0 := by omega
    have HH := Lib.hid h
    have HBW := Lib.hid hbw
    clear h hin ht hos hbw hnil
    go_enter Try.func27, Try.ntmps27
    go_wp2
    go_ret
    exact ⟨ret_int HP.out.2.symm, fv, os, HH.out, HP.out.1.symm, fun o ho => .inl ho, HBW.out⟩
  case neg =>
    have htr : CRow intC 1 w tA t.length t := own_row intC_len (h.db.rows.own _ (List.mem_append_right _ hin))
    have HK := Lib.hid (key_any w tA t.length tc t htr ht htl)
    have hz : ¬ t.length = 0 := fun e => hnil (List.length_eq_zero_iff.1 e)
    have z0 : ((t.length : Int) == 0) = false := by rw [beq_eq_false_iff_ne]; omega
    have HFD := Lib.hid (PB.find h.hd ht hos hnil)
    have HH := Lib.hid h
    have HBW := Lib.hid hbw
    have HIN := Lib.hid hin
    have HNZ := Lib.hid hz
    obtain ⟨tn, htn⟩ : ∃ x, t.length = x := ⟨_, rfl⟩
    have HTN := Lib.hid htn
    rw [htn] at HK z0 hz ⊢
    clear h hin ht hos hbw htr htn hnil
    go_enter Try.func27, Try.ntmps27
    go_wp2_with fail
    refine HK.out.mono ?_
    rintro e w2 ⟨rfl, hb2⟩
    have HH2 := Lib.hid (HH.out.below hb2)
    have HB2 : Hid (Below X w0 w2) := Lib.hid (HBW.out.trans (hb2.mono (by have := HH.out.db.lt; have := HH.out.db.le; omega)))
    have c0 : w2.cell? ⟨XM, 0, none⟩ = some (.map (some mb)) := by rw [cell_of_row w2 XM 0 _ _ _ HH2.out.mbx]; rfl
    have c1 : w2.cell? ⟨XA, 0, none⟩ = some fv := by rw [cell_of_row w2 XA 0 _ _ _ HH2.out.all_]; rfl
    have hlk := run_lookup_s (strK (keyL t)) _ mb w2 HH2.out.mp
    obtain ⟨fa, fc, rfl, _, _⟩ := own_form HH2.out.db.own.1
    obtain ⟨ks, hks⟩ : ∃ x, ((os.drop 1).map fun o => keyB o.xs) = x := ⟨_, rfl⟩
    have HKS := Lib.hid hks
    rw [hks] at hlk HFD
    have hfs : findS (keyB t) 0 ks = findS (strK (keyL t)) 0 ks := rfl
    rw [hfs] at HFD
    obtain ⟨ol, holE⟩ : ∃ x, os.length = x := ⟨_, rfl⟩
    have HOL := Lib.hid holE
    rw [holE] at c1 hol
    have HKL : Hid ((ol : Int) = (ks.length : Int) + 1) := Lib.hid (by
      obtain ⟨o0, s, h9, _⟩ := HH.out.hd
      have : ks.length = ol - 1 := by rw [← hks, List.length_map, List.length_drop, holE]
      have : 0 < ol := by rw [← holE, h9]; simp
      omega)
    clear hks hb2 holE hfs
    cases hf : findS (strK (keyL t)) 0 ks with
    | some k =>
      rw [hf] at hlk HFD
      simp only at hlk HFD
      have HPO := Lib.hid (putF_old (f := os.map Sl.xs) (t := t) (by rw [HTN.out]; exact hz) (by rw [HFD.out]; omega))
      clear hf
      go_wp2
      go_ret
      exact ⟨ret_int (by rw [HPO.out.2, HFD.out]), _, os, HH2.out, HPO.out.1.symm, fun o ho => .inl ho, HB2.out⟩
    | none =>
      rw [hf] at hlk HFD
      simp only at hlk HFD
      have HPN := Lib.hid (putF_new (f := os.map Sl.xs) (t := t) (by rw [HTN.out]; exact hz) (by rw [HFD.out]; omega))
      have HF := Lib.hid hf
      have HUP := Lib.hid HH2.out.mp
      have HIN2 : Hid (inn ⟨tA, tn, tc, t⟩ ∈ rest ∧ tn = t.length) := Lib.hid (by rw [← HTN.out]; exact ⟨HIN.out, rfl⟩)
      have hle2 : B ≤ w2.heap.size := HH2.out.db.le
      clear hf
      go_wp2_with (first
        | (at_mapUpdate
           refine wpList_update_s rfl _ _ _ rfl (strK (keyL t)) ks (ol : Int) HKL.out mb rfl rfl rfl (by rw [← HKS.out]; exact HUP.out) HF.out ?_
           intro wm hm hmB hmk hms
           have HM := Lib.hid hm
           have HMB := Lib.hid hmB
           have HMK := Lib.hid hmk
           have HMS := Lib.hid hms
           have hAm : XA ≠ mb := fun e => by
             have h1 := HH2.out.all_
             rw [e] at h1
             have := (show w2.heap[mb]? = _ from HH2.out.mp).symm.trans h1
             cases this
           have hA1 := (hmk XA hAm).trans HH2.out.all_
           rw [HOL.out] at hA1
           have d1 : wm.cell? ⟨XA, 0, none⟩ = some (.slice fa ol fc) := by rw [cell_of_row wm XA 0 _ _ _ hA1]; rfl
           have HA1 := Lib.hid hA1
           have hdm := HH2.out.db.keepT HH2.out.ri (w' := wm) (fun k cur t hc ht => hmk k (fun e => by subst e; have := (show w2.heap[k]? = _ from HH2.out.mp).symm.trans hc; cases this)) (by omega)
           have hom := hdm.own.1
           rw [HOL.out] at hom
           have HOM := Lib.hid hom
           have hlm : B ≤ wm.heap.size := by omega
           have HAP := Lib.hid (app_sl hom ⟨tA, tn, tc, t⟩ (by omega) hlm wm.heap.size rfl)
           clear hm hmB hmk hms hA1 hdm hom hAm c0 c1)
        | (at_builtin
           refine HAP.out _ _ _ _ _ rfl _ _ rfl rfl rfl ?_
           intro gg cap w5 hownB hgrow hat
           have HOB := Lib.hid hownB
           have HGB := Lib.hid hgrow
           have HAT := Lib.hid hat
           have hnx : some XA ≠ (Value.slice fa ol fc).ownBlock := fun e => by
             obtain ⟨cur, hc⟩ := own_obj HOM.out e.symm
             exact obj_ne HA1.out hc (by decide) rfl
           have hXl : XA < wm.heap.size := (Array.getElem?_eq_some_iff.1 HA1.out).1
           have hA5 := (hgrow.block XA (by simp; omega) hnx).trans ((Below.heap_alloc wm _ XA hXl).trans HA1.out)
           have d5 : w5.cell? ⟨XA, 0, none⟩ = some (.slice fa ol fc) := by rw [cell_of_row w5 XA 0 _ _ _ hA5]; rfl
           have f5 := frozen_of_row w5 XA 0 _ _ hA5
           clear hownB hgrow hat hnx hA5 d1))
      go_ret
      have hXB : X < B := HH2.out.db.lt
      have HPB := HH2.out.put (wm := wm) (z := ⟨tA, tn, tc, t⟩) (by rw [HKS.out]; exact HM.out) HMK.out HMS.out ((Below.refl wm.heap.size wm).alloc (Nat.le_refl _) (.cells #[.slice tA tn tc] 23)) (by rw [HOL.out]; exact HGB.out) (v := .slice (some ⟨gg, 0, none⟩) (ol + 1) cap) (by rw [HOL.out]; exact HOB.out) (by
        rw [HOL.out]
        rcases HAT.out with h1 | h1
        · exact .inl (by rw [h1]; rfl)
        · exact .inr ⟨gg, rfl, by have := HMS.out; omega⟩) HIN2.out
      have hb5 : Below X w0 (w5.setCell ⟨XA, 0, none⟩ (.slice (some ⟨gg, 0, none⟩) (ol + 1) cap)) := by
        have h1 : Below X w0 wm := HB2.out.trans (HMB.out X (by have := HH2.out.bM; omega))
        refine (below_grown (h1.alloc (by have := HMS.out; omega) _) (by have := HMS.out; simp; omega) HGB.out (fun q hq => by have := (own_ge HOM.out hq).1; omega)).setCell (p := ⟨XA, 0, none⟩) (by show X ≤ XA; have := HH2.out.bA; omega) _
      exact ⟨ret_int (by rw [HPN.out.2, List.length_map, HOL.out]), _, _, HPB, by rw [HPN.out.1, List.map_append]; rfl, fun o ho => by
        rcases List.mem_append.1 ho with h1 | h1
        · exact .inl h1
        · rw [List.mem_singleton] at h1; subst h1; exact .inr rfl, hb5⟩
end Go.Proofs.Ytmkgipoljbiocaa
/- A machine while dfa.Build makes it: how its rows are kept. -/
namespace Go.Proofs.Ytmkgipoljbiocaa
open Go.RowKit
set_option linter.unusedVariables false

/-- The rows are as said; the list's box and the map lie as they lay. -/
theorem PB.with_ {B X XA XM mb : Nat} {w w' : World} {D D' : Df} {fv : Value} {os nx nx' : List (Sl Int)} {lb lb' : List Int} {rv rv' : Value} {r r' : List Int} {rest rest' : List RowD} (h : PB B X XA XM mb w D fv os nx lb rv r rest) (hd : DB B X w' D' fv os nx' lb' rv' r' rest')
    (hA : w'.heap[XA]? = w.heap[XA]?) (hM : w'.heap[XM]? = w.heap[XM]?) (hm : w'.heap[mb]? = w.heap[mb]?) (hri : ∀ q ∈ rest', q.e = 3) : PB B X XA XM mb w' D' fv os nx' lb' rv' r' rest' :=
  ⟨hd, hA.trans h.all_, hM.trans h.mbx, hm.trans h.mp, hri, h.hd, h.bA, h.bM, h.bX⟩
/-- The table is begun. -/
theorem PB.begin (u : World) (X : Nat) (C : Nat → Nat) (z : Int) (h : DfaAt u X ⟨C, z, none, 0, 0, none, 0, 0⟩) (s : Nat) (hs : u.heap.size = s) (hX : X < s) :
    PB (X + 1) X (s + 2) (s + 3) (s + 1) ((((u.alloc (.cells #[.slice none 0 0] 23)).alloc (.map #[] 0)).alloc (.cells #[.slice (some ⟨s, 0, none⟩) 1 1] 25)).alloc (.cells #[.map (some (s + 1))] 57))
      ⟨C, z, none, 0, 0, none, 0, 0⟩ (.slice (some ⟨s, 0, none⟩) 1 1) [⟨none, 0, 0, []⟩] [] [] (.slice none 0 0) [] [inn ⟨none, 0, 0, []⟩] := by
  have h0 : DB (X + 1) X u ⟨C, z, none, 0, 0, none, 0, 0⟩ (.slice none 0 0) [] [] [] (.slice none 0 0) [] [] := by
    refine ⟨h, ⟨fun r hr => ?_, fun i j r s hi hj hne k hk => ?_⟩, fun o ho => by simp at ho, fun o ho => by simp at ho, by omega, by omega⟩
    · simp only [base4, List.append_nil, List.mem_cons, List.not_mem_nil, or_false] at hr
      rcases hr with rfl | rfl | rfl | rfl <;> exact own_none _ _ _ _
    · exfalso
      have hr := List.mem_of_getElem? hi
      simp only [base4, List.append_nil, List.mem_cons, List.not_mem_nil, or_false] at hr
      rcases hr with rfl | rfl | rfl | rfl <;> simp [Value.ownBlock] at hk
  have h1 := h0.add (Below.refl u.heap.size u) (q := inn ⟨none, 0, 0, []⟩) (own_none _ _ _ _)
  obtain ⟨w1, hw1⟩ : ∃ x, x = u.alloc (.cells #[.slice none 0 0] 23) := ⟨_, rfl⟩
  have hs1 : w1.heap.size = s + 1 := by rw [hw1]; simp [hs]
  have hb1 : Below u.heap.size u w1 := by rw [hw1]; exact (Below.refl _ _).alloc (Nat.le_refl _) _
  have ho := own_lit seC_len u u.heap.size 23 (Nat.le_refl _) (⟨none, 0, 0, []⟩ : Sl Int) #[.slice none 0 0] rfl
  rw [← hw1, hs] at ho
  have h2 := h1.rows.fresh (r := ⟨23, 1, .slice (some ⟨s, 0, none⟩) 1 1, 1, seC ⟨none, 0, 0, []⟩⟩) hb1 b4.1 (by rw [hs]; exact ho) h1.le
  have h3 := h1.below hb1
  have h4 : DB (X + 1) X w1 ⟨C, z, none, 0, 0, none, 0, 0⟩ (.slice (some ⟨s, 0, none⟩) 1 1) [⟨none, 0, 0, []⟩] [] [] (.slice none 0 0) [] [inn ⟨none, 0, 0, []⟩] := by
    refine ⟨h3.box, h2, fun o ho => ?_, h3.memn, h3.lt, h3.le⟩
    rw [List.mem_singleton] at ho
    subst ho
    exact ⟨.head _, rfl⟩
  rw [← hw1]
  have e2 : (w1.alloc (.map #[] 0)).heap.size = s + 2 := by simp [hs1]
  have e3 : ((w1.alloc (.map #[] 0)).alloc (.cells #[.slice (some ⟨s, 0, none⟩) 1 1] 25)).heap.size = s + 3 := by simp [hs1]
  have hb2 : Below w1.heap.size w1 (((w1.alloc (.map #[] 0)).alloc (.cells #[.slice (some ⟨s, 0, none⟩) 1 1] 25)).alloc (.cells #[.map (some (s + 1))] 57)) :=
    (((Below.refl _ _).alloc (Nat.le_refl _) _).alloc (by rw [e2, hs1]; omega) _).alloc (by rw [e3, hs1]; omega) _
  refine ⟨h4.below hb2, ?_, ?_, ?_, fun q hq => ?_, ⟨_, [], rfl, rfl⟩, by omega, by omega, by omega⟩
  · rw [Below.heap_alloc _ _ _ (by rw [e3]; omega)]
    have := heap_alloc_new (w1.alloc (.map #[] 0)) (.cells #[.slice (some ⟨s, 0, none⟩) 1 1] 25)
    rw [e2] at this; exact this
  · have := heap_alloc_new ((w1.alloc (.map #[] 0)).alloc (.cells #[.slice (some ⟨s, 0, none⟩) 1 1] 25)) (.cells #[.map (some (s + 1))] 57)
    rw [e3] at this; exact this
  · show _ = _
    rw [Below.heap_alloc _ _ _ (by rw [e3]; omega), Below.heap_alloc _ _ _ (by rw [e2]; omega)]
    have := heap_alloc_new w1 (.map #[] 0)
    rw [hs1] at this; exact this
  · rw [List.mem_singleton] at hq; subst hq; rfl
/-- A cell of the row under way is written. -/
theorem DB.set_c {B X : Nat} {w : World} {D : Df} {fv : Value} {os nx : List (Sl Int)} {lb : List Int} {gr rn rc : Nat} {r : List Int} {rest : List RowD} (h : DB B X w D fv os nx lb (.slice (some ⟨gr, 0, none⟩) rn rc) r rest) (c : Nat) (z : Int) :
    DB B X (w.setCell ⟨gr, c, none⟩ (.int .i64 z)) D fv os nx lb (.slice (some ⟨gr, 0, none⟩) rn rc) (r.set c z) rest := by
  have h0 := h.own.2.2.2
  have hn := own_n h0
  subst hn
  obtain ⟨ho, hg⟩ := h0.stored c (.int .i64 z)
  have e1 : ((r.flatMap intC).set c (.int .i64 z)) = (r.set c z).flatMap intC := by
    have : ∀ (l : List Int) (c : Nat), ((l.flatMap intC).set c (.int .i64 z)) = (l.set c z).flatMap intC := by
      intro l
      induction l with
      | nil => intro c; rfl
      | cons x l ih =>
        intro c
        cases c with
        | zero => rfl
        | succ c => exact congrArg (Value.int .i64 x :: ·) (ih c)
    exact this r c
  rw [e1] at ho
  have h1 := h.rows.grow (r' := ⟨3, 1, .slice (some ⟨gr, 0, none⟩) r.length rc, r.length, (r.set c z).flatMap intC⟩) (Below.refl _ _) b4.2.2.2 hg ho (.inl rfl)
  have hne : X ≠ gr := fun e => by have := (h0.lt gr rfl).1; have := h.lt; omega
  refine ⟨(heap_setCell_other _ _ _ _ hne).trans h.box, ?_, h.memf, h.memn, h.lt, by have := h.le; simpa using this⟩
  have e : (base4 D fv os nx lb (.slice (some ⟨gr, 0, none⟩) r.length rc) r ++ rest).set 3 ⟨3, 1, .slice (some ⟨gr, 0, none⟩) r.length rc, r.length, (r.set c z).flatMap intC⟩ = base4 D fv os nx lb (.slice (some ⟨gr, 0, none⟩) r.length rc) (r.set c z) ++ rest := by simp [base4]
  rw [e] at h1; exact h1
theorem PB.set_c {B X XA XM mb : Nat} {w : World} {D : Df} {fv : Value} {os nx : List (Sl Int)} {lb : List Int} {gr rn rc : Nat} {r : List Int} {rest : List RowD} (h : PB B X XA XM mb w D fv os nx lb (.slice (some ⟨gr, 0, none⟩) rn rc) r rest) (c : Nat) (z : Int) :
    PB B X XA XM mb (w.setCell ⟨gr, c, none⟩ (.int .i64 z)) D fv os nx lb (.slice (some ⟨gr, 0, none⟩) rn rc) (r.set c z) rest := by
  obtain ⟨a1, a2, a3⟩ := h.apart_row h.db.own.2.2.2 (.inl rfl)
  exact h.with_ (h.db.set_c c z) (heap_setCell_other _ _ _ _ (fun e => a1 (by rw [e]; rfl))) (heap_setCell_other _ _ _ _ (fun e => a2 (by rw [e]; rfl))) (heap_setCell_other _ _ _ _ (fun e => a3 (by rw [e]; rfl))) h.ri
/-- A row is made. -/
theorem DB.made_c {B X : Nat} {w w' : World} {D : Df} {fv : Value} {os nx : List (Sl Int)} {lb : List Int} {rv : Value} {r : List Int} {rest : List RowD} (h : DB B X w D fv os nx lb rv [] rest) (hb : Below w.heap.size w w') {v : Value} (ho : w'.ownsRow w.heap.size 3 1 v r.length (r.flatMap intC)) : DB B X w' D fv os nx lb v r rest := by
  have h1 := h.rows.fresh (r := ⟨3, 1, v, r.length, r.flatMap intC⟩) hb b4.2.2.2 ho h.le
  have h' := h.below hb
  refine ⟨h'.box, ?_, h.memf, h.memn, h.lt, h'.le⟩
  have e : (base4 D fv os nx lb rv [] ++ rest).set 3 ⟨3, 1, v, r.length, r.flatMap intC⟩ = base4 D fv os nx lb v r ++ rest := by simp [base4]
  rw [e] at h1; exact h1
theorem PB.made_c {B X XA XM mb : Nat} {w w' : World} {D : Df} {fv : Value} {os nx : List (Sl Int)} {lb : List Int} {rv : Value} {r : List Int} {rest : List RowD} (h : PB B X XA XM mb w D fv os nx lb rv [] rest) (hb : Below w.heap.size w w') {v : Value} (ho : w'.ownsRow w.heap.size 3 1 v r.length (r.flatMap intC)) : PB B X XA XM mb w' D fv os nx lb v r rest := by
  exact h.with_ (h.db.made_c hb ho) (hb.block XA (Array.getElem?_eq_some_iff.1 h.all_).1) (hb.block XM (Array.getElem?_eq_some_iff.1 h.mbx).1) (hb.block mb h.mp.lt) h.ri
/-- The row goes to the others. -/
theorem PB.free_c {B X XA XM mb : Nat} {w : World} {D : Df} {fv : Value} {os nx : List (Sl Int)} {lb : List Int} {ca : Option Addr} {cc : Nat} {r : List Int} {rest : List RowD} (h : PB B X XA XM mb w D fv os nx lb (.slice ca r.length cc) r rest) : PB B X XA XM mb w D fv os nx lb (.slice none 0 0) [] (rest ++ [inn ⟨ca, r.length, cc, r⟩]) :=
  h.with_ h.db.free_c rfl rfl rfl (fun q hq => by rcases List.mem_append.1 hq with h1 | h1; exact h.ri q h1; rw [List.mem_singleton] at h1; subst h1; rfl)
theorem PB.far {B X XA XM mb : Nat} {w wa w1 : World} {D : Df} {fv : Value} {os nx : List (Sl Int)} {lb : List Int} {rv : Value} {r : List Int} {rest : List RowD} (h : PB B X XA XM mb w D fv os nx lb rv r rest) {e : TypeId} {v : Value} {n k : Nat} {xs : List Value} (ho : w.ownsRow B e k v n xs) (he : e = 3 ∨ e = 23) (hb : Below w.heap.size w wa) (hg : wa.grownBy w1 v.ownBlock) (j : Nat) (u : Value) :
    (w1.setCell ⟨X, j, none⟩ u).heap[XA]? = w.heap[XA]? ∧ (w1.setCell ⟨X, j, none⟩ u).heap[XM]? = w.heap[XM]? ∧ (w1.setCell ⟨X, j, none⟩ u).heap[mb]? = w.heap[mb]? := by
  obtain ⟨a1, a2, a3⟩ := h.apart_row ho he
  have hlt := h.db.lt
  have up : ∀ k, k < w.heap.size → B ≤ k → some k ≠ v.ownBlock → (w1.setCell ⟨X, j, none⟩ u).heap[k]? = w.heap[k]? := fun k hk hB hne =>
    (heap_setCell_other _ _ _ _ (by show k ≠ X; omega)).trans ((hg.block k (by have := hb.size; omega) hne).trans (hb.block k hk))
  exact ⟨up XA (Array.getElem?_eq_some_iff.1 h.all_).1 h.bA a1, up XM (Array.getElem?_eq_some_iff.1 h.mbx).1 h.bX a2, up mb h.mp.lt h.bM a3⟩
theorem PB.put_n {B X XA XM mb : Nat} {w wa w1 : World} {D : Df} {fv : Value} {os nx : List (Sl Int)} {lb : List Int} {rv : Value} {r : List Int} {rest : List RowD} (h : PB B X XA XM mb w D fv os nx lb rv r rest) (hb : Below w.heap.size w wa) (hg : wa.grownBy w1 (Value.slice D.na D.nl D.nc).ownBlock) {a : Option Addr} {n c : Nat} {z : Sl Int}
    (ho : w1.ownsRow B 23 1 (.slice a n c) (nx.length + 1) ((nx ++ [z]).flatMap seC)) (hv : (Value.slice a n c).ownBlock = (Value.slice D.na D.nl D.nc).ownBlock ∨ ∃ b, (Value.slice a n c).ownBlock = some b ∧ w.heap.size ≤ b) (hz : inn z ∈ rest ∧ z.l = z.xs.length) :
    PB B X XA XM mb (w1.setCell ⟨X, 257, none⟩ (.slice a n c)) { D with na := a, nl := n, nc := c } fv os (nx ++ [z]) lb rv r rest := by
  obtain ⟨a1, a2, a3⟩ := h.far h.db.own.2.1 (.inr rfl) hb hg 257 (.slice a n c)
  exact h.with_ (h.db.put_n hb hg ho hv hz) a1 a2 a3 h.ri
theorem PB.put_l {B X XA XM mb : Nat} {w wa w1 : World} {D : Df} {fv : Value} {os nx : List (Sl Int)} {lb : List Int} {rv : Value} {r : List Int} {rest : List RowD} (h : PB B X XA XM mb w D fv os nx lb rv r rest) (hb : Below w.heap.size w wa) (hg : wa.grownBy w1 (Value.slice D.la D.ll D.lc).ownBlock) {a : Option Addr} {n c : Nat} {z : Int}
    (ho : w1.ownsRow B 3 1 (.slice a n c) (lb.length + 1) ((lb ++ [z]).flatMap intC)) (hv : (Value.slice a n c).ownBlock = (Value.slice D.la D.ll D.lc).ownBlock ∨ ∃ b, (Value.slice a n c).ownBlock = some b ∧ w.heap.size ≤ b) :
    PB B X XA XM mb (w1.setCell ⟨X, 258, none⟩ (.slice a n c)) { D with la := a, ll := n, lc := c } fv os nx (lb ++ [z]) rv r rest := by
  obtain ⟨a1, a2, a3⟩ := h.far h.db.own.2.2.1 (.inl rfl) hb hg 258 (.slice a n c)
  exact h.with_ (h.db.put_l hb hg ho hv) a1 a2 a3 h.ri
/-- A row: what is written, then zeros. -/
theorem set_pad (r : List Int) (z : Int) (k : Nat) : (r ++ List.replicate (k + 1) (0 : Int)).set r.length z = (r ++ [z]) ++ List.replicate k 0 := by
  induction r with
  | nil => rfl
  | cons x r ih => exact congrArg (x :: ·) ih
end Go.Proofs.Ytmkgipoljbiocaa
