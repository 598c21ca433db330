/- Several texts in one: Build, TwinK, Read6, MunchK, MunchLN, MunchLaid, OpenDfa, MunchV, OpenPc. -/
import Derived.Test.YtenijacffcdnaaaDoorTw7
import Derived.Deep.CutRange
import Derived.Test.YtenijacffcdnaaaDoorTw3
import Derived.Test.YtenijacffcdnaaaDoorTw4
import Derived.Lib.LaidTab
import Derived.LaidMore
import Derived.MakeChecks
import Derived.Test.YtenijacffcdnaaaDoorTw2
import Derived.Test.YtenijacffcdnaaaDoorTw1
/- The table of a net: the document's Build. -/
namespace Go.Proofs.YtenijacffcdnaaaDoor
open Go.RowKit
set_option linter.unusedVariables false
set_option linter.unusedSimpArgs false

theorem outer_len {N : NetS} {most : Nat} : ∀ (i : Nat) {f nx : List (List Int)} {lb : List Int}, outerUp N most i = some (f, nx, lb) → nx.length ≤ i ∧ lb.length ≤ i := by
  intro i
  induction i with
  | zero => intro f nx lb h; simp [outerUp] at h; obtain ⟨_, rfl, rfl⟩ := h; simp
  | succ i ih =>
    intro f nx lb h
    simp only [outerUp] at h
    split at h
    · cases h
    · rename_i f1 nx1 lb1 h1
      have := ih h1
      split at h
      · simp only [Option.some.injEq, Prod.mk.injEq] at h
        obtain ⟨_, rfl, rfl⟩ := h; omega
      · split at h
        · cases h
        · simp only [Option.some.injEq, Prod.mk.injEq] at h
          obtain ⟨_, rfl, rfl⟩ := h; simp; omega
theorem inner_next {N : NetS} {most : Nat} {x : List Int} {i : Nat} {f0 f : List (List Int)} {r t : List Int} {c : Nat} (hin : innerUp N most x i f0 c = some (f, r)) (ht : toL N x i c = t) {f' : List (List Int)} {z : Int} (hf : putF f t = f' ∧ atF f t = z) (hm : f'.length ≤ most) : innerUp N most x i f0 (c + 1) = some (f', r ++ [z]) := by
  simp only [innerUp]
  rw [hin]
  simp only
  rw [ht, hf.1, hf.2, if_neg (by omega)]
theorem inner_fail {N : NetS} {most : Nat} {x : List Int} {i : Nat} {f0 f : List (List Int)} {r t : List Int} {c : Nat} (hin : innerUp N most x i f0 c = some (f, r)) (ht : toL N x i c = t) {f' : List (List Int)} {z : Int} (hf : putF f t = f' ∧ atF f t = z) (hm : most < f'.length) : innerUp N most x i f0 (c + 1) = none := by
  simp only [innerUp]
  rw [hin]
  simp only
  rw [ht, hf.1, if_pos hm]
theorem putF_nil {f : List (List Int)} {t : List Int} (h : t.length = 0) : putF f t = f ∧ atF f t = -1 := by
  have e := List.length_eq_zero_iff.1 h
  unfold putF atF
  rw [if_pos e, if_pos e]; exact ⟨rfl, rfl⟩
theorem putF_new {f : List (List Int)} {t : List Int} (h : t.length ≠ 0) (h2 : findL f t < 0) : putF f t = f ++ [t] ∧ atF f t = (f.length : Int) := by
  have e : t ≠ [] := fun e => h (by rw [e]; rfl)
  unfold putF atF
  rw [if_neg e, if_neg e, if_pos h2, if_pos h2]; exact ⟨rfl, rfl⟩
theorem putF_old {f : List (List Int)} {t : List Int} (h : t.length ≠ 0) (h2 : ¬ findL f t < 0) : putF f t = f ∧ atF f t = findL f t := by
  have e : t ≠ [] := fun e => h (by rw [e]; rfl)
  unfold putF atF
  rw [if_neg e, if_neg e, if_neg h2, if_neg h2]; exact ⟨rfl, rfl⟩
/-- One slice more behind a row of the call's own. -/
theorem app_sl {w : World} {base n : Nat} {v : Value} {os : List (Sl Int)} (hown : w.ownsRow base 24 1 v n (os.flatMap seC)) (z : Sl Int) (hn : n ≤ 1000000) (hbase : base ≤ w.heap.size) (H : Nat) (hH : w.heap.size = H)
    (ops : Array Oper) (rest : List Oper) (o : Oper) (a : Act) (Q : Exit → Act → World → Prop) (hg : o.guard = none) (s x : Operand) (ho : o.op = .call { callee := .builtin .append, args := #[s, x], argTypes := #[23, 23] })
    (hs : a.eval s = v) (hx : a.eval x = .slice (some ⟨H, 0, none⟩) 1 1)
    (h : ∀ g cap w', w'.ownsRow base 24 1 (.slice (some ⟨g, 0, none⟩) (n + 1) cap) (n + 1) ((os ++ [z]).flatMap seC) → (w.alloc (.cells #[.slice z.a z.l z.c] 24)).grownBy w' v.ownBlock → (v.ownBlock = some g ∨ g = H + 1) →
      wpList Tryd.prog ops Q rest (a.put o.dst (.slice (some ⟨g, 0, none⟩) (n + 1) cap)) w') : wpList Tryd.prog ops Q (o :: rest) a (w.alloc (.cells #[.slice z.a z.l z.c] 24)) :=
  app_el (P := Tryd.prog) (C := seC) (T := 23) (by decide) seC_len seC_one Tryd.underlying23 infoInts rfl hown z (by unfold maxLen; omega) (by omega) hbase H hH #[.slice z.a z.l z.c] rfl ops rest o a Q hg s x ho hs hx h
/-- Three results: a machine in its block, two numbers. -/
theorem results_dfa2 {fn : Func} {p t u : Tmp} (h : fn.results = #[.cell p 26, .tmp t, .tmp u]) (tmps : Array Value) (w : World) (g : Nat) (D : Df) (v x : Value)
    (hp : tmps.getD p undef = .pointer (some ⟨g, 0, none⟩)) (hv : tmps.getD t undef = v) (hx : tmps.getD u undef = x) (hg : DfaAt w g D) :
    (results fn tmps).run Tryd.prog w = .ok (.tuple #[.agg (dfA D), v, x]) w := by
  have hp' : tmps[p]?.getD undef = .pointer (some ⟨g, 0, none⟩) := by simpa using hp
  have hv' : tmps[t]?.getD undef = v := by simpa using hv
  have hx' : tmps[u]?.getD undef = x := by simpa using hx
  simp [results, h, hp', hv', hx', asAddr, run_loadVar_dfa w g D hg]
set_option maxRecDepth 100000 in
theorem zc_dfa : Tryd.zeroCells26 = dfA zeroD := by kernel_rfl
theorem zv_dfa : Value.agg Tryd.zeroCells26 = .agg (dfA zeroD) := congrArg Value.agg zc_dfa
theorem mat0 (w : World) : MAt w zeroD ms0 := ⟨rfl, rfl, ⟨[], ⟨rfl, by decide, fun h => by cases h⟩, fun o ho => by simp at ho, rfl⟩, ⟨rfl, by decide, fun h => by cases h⟩⟩
/-- The machine's rows when the table is begun. -/
theorem DB.begin (u : World) (X : Nat) (C : Nat → Nat) (z : Int) (h : DfaAt u X ⟨C, z, none, 0, 0, none, 0, 0⟩) (hX : X < u.heap.size) :
    DB (X + 1) X ((u.alloc (.cells #[] 3)).alloc (.cells #[.slice (some ⟨u.heap.size, 0, none⟩) 0 0] 24)) ⟨C, z, none, 0, 0, none, 0, 0⟩ (.slice (some ⟨u.heap.size + 1, 0, none⟩) 1 1) [⟨some ⟨u.heap.size, 0, none⟩, 0, 0, []⟩] [] [] (.slice none 0 0) [] [inn ⟨some ⟨u.heap.size, 0, none⟩, 0, 0, []⟩] := by
  have h0 : DB (X + 1) X u ⟨C, z, none, 0, 0, none, 0, 0⟩ (.slice none 0 0) [] [] [] (.slice none 0 0) [] [] := by
    refine ⟨h, ⟨fun r hr => ?_, fun i j r s hi hj hne k hk => ?_⟩, fun o ho => by simp at ho, fun o ho => by simp at ho, by omega, by omega⟩
    · simp only [base4, List.append_nil, List.mem_cons, List.not_mem_nil, or_false] at hr
      rcases hr with rfl | rfl | rfl | rfl <;> exact own_none _ _ _ _
    · exfalso
      have hr := List.mem_of_getElem? hi
      simp only [base4, List.append_nil, List.mem_cons, List.not_mem_nil, or_false] at hr
      rcases hr with rfl | rfl | rfl | rfl <;> simp [Value.ownBlock] at hk
  have hb1 : Below u.heap.size u (u.alloc (.cells #[] 3)) := (Below.refl _ _).alloc (Nat.le_refl _) _
  have h1 := h0.add hb1 (q := inn ⟨some ⟨u.heap.size, 0, none⟩, 0, 0, []⟩) (own_zero u u.heap.size 3 1 (Nat.le_refl _))
  obtain ⟨w1, hw1⟩ : ∃ x, x = u.alloc (.cells #[] 3) := ⟨_, rfl⟩
  have hs : w1.heap.size = u.heap.size + 1 := by rw [hw1]; simp
  rw [← hw1] at h1 ⊢
  have hb2 : Below w1.heap.size w1 (w1.alloc (.cells #[.slice (some ⟨u.heap.size, 0, none⟩) 0 0] 24)) := (Below.refl _ _).alloc (Nat.le_refl _) _
  have ho := own_lit seC_len w1 w1.heap.size 24 (Nat.le_refl _) (⟨some ⟨u.heap.size, 0, none⟩, 0, 0, []⟩ : Sl Int) #[.slice (some ⟨u.heap.size, 0, none⟩) 0 0] rfl
  have h2 := h1.rows.fresh (r := ⟨24, 1, .slice (some ⟨u.heap.size + 1, 0, none⟩) 1 1, 1, seC ⟨some ⟨u.heap.size, 0, none⟩, 0, 0, []⟩⟩) hb2 b4.1 (by rw [← hs]; exact ho) h1.le
  have h3 := h1.below hb2
  refine ⟨h3.box, h2, fun o ho => ?_, h3.memn, h3.lt, h3.le⟩
  rw [List.mem_singleton] at ho
  subst ho
  exact ⟨.head _, rfl⟩
/-- What is found may be read. -/
theorem DB.at_ {B X : Nat} {w : World} {D : Df} {fa : Option Addr} {fc : Nat} {os nx : List (Sl Int)} {lb : List Int} {rv : Value} {r : List Int} {rest : List RowD} (h : DB B X w D (.slice fa os.length fc) os nx lb rv r rest) {k : Nat} (hk : k < os.length) :
    ∃ b off A c x, fa = some ⟨b, off, none⟩ ∧ b < w.heap.size ∧ (os.map Sl.xs)[k]? = some x ∧ w.cell? ⟨b, off + k, none⟩ = some (.slice A x.length c) ∧ CRow intC 1 w A x.length x := by
  obtain ⟨b, off, l, h1, h2, h3, A, c, h4, h5⟩ := h.nrow.at_ hk
  exact ⟨b, off, A, c, l, h1, h2, h3, h4, h5⟩
set_option maxRecDepth 100000 in
set_option maxHeartbeats 8000000 in
theorem rbuild_any (w : World) (v : Nv) (N : NetS) (most : Int) (hv : NetAt w v N) (hs : v.sn ≤ 1000) (hf : ∀ l ∈ N.fol, l.length ≤ 1000) :
    Calls Tryd.prog 22 #[.agg (netA v), .int .i64 most] w fun e w' => ∃ D, e = .returned (.tuple #[.agg (dfA D), .int .i64 (buildR N most).2.1, .int .i64 (buildR N most).2.2]) ∧ MAt w' D (buildR N most).1 ∧ Below w.heap.size w w' := by
  have HV := Lib.hid hv
  have HF := Lib.hid hf
  have HLS := Lib.hid hv.s.1
  obtain ⟨g, hg⟩ : ∃ g, w.heap.size = g := ⟨_, rfl⟩
  have HG := Lib.hid hg
  obtain ⟨W1, hW1⟩ : ∃ W, W = (w.alloc (.cells (netA v) 53)).alloc (.cells Tryd.zeroCells26 26) := ⟨_, rfl⟩
  have hs1 : W1.heap.size = g + 2 := by rw [hW1]; simp [hg]
  have hb1 : Below g w W1 := by rw [hW1, ← hg]; exact ((Below.refl _ _).alloc (Nat.le_refl _) _).alloc (by simp) _
  have hbx : W1.heap[g]? = some (.cells (netA v) 53 (0, 0)) := by rw [hW1, ← hg]; exact (Below.heap_alloc _ _ _ (by simp)).trans (heap_alloc_new w _)
  have hdx : DfaAt W1 (g + 1) zeroD := by rw [hW1, zc_dfa]; exact DfaAt.new _ _ _ (by simp [hg])
  have HR := Lib.hid (rnet_any W1 v N (hv.below (by rw [hg]; exact hb1)))
  have HBX := Lib.hid hbx
  have HDX := Lib.hid hdx
  have HB1 := Lib.hid hb1
  have HS1 := Lib.hid hs1
  have HW1 := Lib.hid hW1
  have HBX0 := Lib.hid hbx
  rw [hW1] at HBX0 HR
  obtain ⟨r, hr⟩ : ∃ r, netR N = r := ⟨_, rfl⟩
  have HRR := Lib.hid hr
  rw [hr] at HR
  clear hv hf hbx hdx hb1 hs1 hW1 hr
  go_enter Tryd.func22, Tryd.ntmps22
  go_wp2_with (refine wpList_load_row rfl 53 _ rfl g rfl 53 (netA v) _ _ HBX0.out Tryd.underlying53 rfl sizeNet ?_)
  refine HR.out.mono ?_
  rintro e w2 ⟨rfl, hb2⟩
  rw [← HW1.out, HS1.out] at hb2
  have HB2 := Lib.hid hb2
  have HBT := Lib.hid (HB1.out.trans (hb2.mono (by omega)))
  have hs2 : g + 2 ≤ w2.heap.size := by have := hb2.size; have := HS1.out; omega
  have HX2 := Lib.hid ((hb2.block g (by omega)).trans HBX.out)
  have HD2 := Lib.hid (HDX.out.below hb2 (by omega))
  clear hb2 HR
  cases r with
  | false =>
    have HE : Hid (buildR N most = (ms0, 0, 3)) := Lib.hid (by unfold buildR; rw [if_pos HRR.out])
    go_wp2_with (refine wpList_store_dfa rfl _ _ rfl (g + 1) zeroD zeroD rfl zv_dfa HD2.out ?_; intro w9 hD9 hB9 hO9 hS9)
    refine bodyPost_ret (results_dfa2 rfl _ _ (g + 1) zeroD _ _ rfl rfl rfl hD9) rfl ?_
    rw [HE.out]
    exact ⟨zeroD, rfl, mat0 _, by first | exact HBT.out.trans (hB9 g (by omega)) | (rw [HG.out]; exact HBT.out.trans (hB9 g (by omega)))⟩
  | true =>
    by_cases hm : most < 1 ∨ 4096 < most
    case pos =>
      have HE : Hid (buildR N most = (ms0, 0, 2)) := Lib.hid (by unfold buildR; rw [if_neg (by rw [HRR.out]; decide), if_pos hm])
      by_cases hm1 : most < 1
      · go_wp2_with (refine wpList_store_dfa rfl _ _ rfl (g + 1) zeroD zeroD rfl zv_dfa HD2.out ?_; intro w9 hD9 hB9 hO9 hS9)
        refine bodyPost_ret (results_dfa2 rfl _ _ (g + 1) zeroD _ _ rfl rfl rfl hD9) rfl ?_
        rw [HE.out]
        exact ⟨zeroD, rfl, mat0 _, by first | exact HBT.out.trans (hB9 g (by omega)) | (rw [HG.out]; exact HBT.out.trans (hB9 g (by omega)))⟩
      · have hm2 : 4096 < most := by omega
        go_wp2_with (refine wpList_store_dfa rfl _ _ rfl (g + 1) zeroD zeroD rfl zv_dfa HD2.out ?_; intro w9 hD9 hB9 hO9 hS9)
        refine bodyPost_ret (results_dfa2 rfl _ _ (g + 1) zeroD _ _ rfl rfl rfl hD9) rfl ?_
        rw [HE.out]
        exact ⟨zeroD, rfl, mat0 _, by first | exact HBT.out.trans (hB9 g (by omega)) | (rw [HG.out]; exact HBT.out.trans (hB9 g (by omega)))⟩
    case neg =>
      have hm1 : ¬ most < 1 := by omega
      have hm2 : ¬ 4096 < most := by omega
      have HE : Hid (buildR N most = tabR N (outerUp N most.toNat (most.toNat + 1))) := Lib.hid (by unfold buildR; rw [if_neg (by rw [HRR.out]; decide), if_neg hm])
      obtain ⟨M, hM⟩ : ∃ M : Nat, most = (M : Int) := ⟨most.toNat, by omega⟩
      subst hM
      have hM1 : 1 ≤ M := by omega
      have hM2 : M ≤ 4096 := by omega
      rw [Int.toNat_natCast] at HE
      obtain ⟨X, hX⟩ : ∃ X, w2.heap.size = X := ⟨_, rfl⟩
      have HX := Lib.hid hX
      have hXg : g + 2 ≤ X := by omega
      have hd3 : DfaAt (w2.alloc (.cells Tryd.zeroCells26 26)) X zeroD := by rw [zc_dfa]; exact DfaAt.new _ _ _ hX
      have HD3 := Lib.hid hd3
      clear hd3 hm
      go_wp2_with (refine wpList_store_dfa rfl _ _ rfl X zeroD zeroD rfl zv_dfa HD3.out ?_; intro w3 hD3 hB3 hO3 hS3; have hb3 : Below X w2 w3 := ((Below.refl X w2).alloc (by omega) _).trans (hB3 X (Nat.le_refl _)); obtain ⟨cc0, cc1, cc2, cc3, cc4⟩ := netC (W := w3) (g := g) (v := v) ((hb3.block g (by omega)).trans HX2.out); have HB3 := Lib.hid hb3; have HD4 := Lib.hid hD3; have hs3 : X + 1 ≤ w3.heap.size := hD3.lt; clear hD3 hB3 hO3 hS3 hb3)
      have HOF := Lib.hid (refof_any N.sets v.sa v.sn v.sc w3 (HV.out.below (w' := w3) (by rw [HG.out]; exact HBT.out.trans (HB3.out.mono (by omega)))).s)
      refine HOF.out.mono ?_
      rintro e w4 ⟨rfl, hb4⟩
      have HD5 := Lib.hid (HD4.out.below hb4 (by omega))
      have HB4 := Lib.hid (HB3.out.trans (hb4.mono (by omega)))
      have hs4 : X + 1 ≤ w4.heap.size := by have := hb4.size; omega
      clear hb4 HOF HD4 HD3 cc0 cc1 cc2 cc3 cc4
      go_wp2_with (refine wpList_store_dcl rfl _ _ rfl X zeroD (clsL N.sets) rfl rfl HD5.out ?_; intro w5 hD5 hB5 hO5 hS5; have c256 := hD5.wd; have f256 := hD5.frozen 256; have HB5 := Lib.hid (HB4.out.trans (hB5 X (Nat.le_refl _))); have HD6 := Lib.hid hD5; have hs5 : X + 1 ≤ w5.heap.size := hD5.lt; clear hD5 hB5 hO5 hS5)
      have hs6 : (w5.setCell ⟨X, 256, none⟩ (.int .i64 (widN N : Int))).heap.size = w5.heap.size := by simp
      have hdb := DB.begin (w5.setCell ⟨X, 256, none⟩ (.int .i64 (widN N : Int))) X (clsL N.sets) (widN N : Int) (HD6.out.set_ 256 _ (dfA_setwd _ _)) (by rw [hs6]; omega)
      rw [hs6] at hdb
      obtain ⟨W6, hW6⟩ : ∃ W, W = ((w5.setCell ⟨X, 256, none⟩ (.int .i64 (widN N : Int))).alloc (.cells #[] 3)).alloc (.cells #[.slice (some ⟨w5.heap.size, 0, none⟩) 0 0] 24) := ⟨_, rfl⟩
      rw [← hW6] at hdb
      have hb6 : Below X w2 W6 := by
        rw [hW6]
        exact ((HB5.out.setCell (p := ⟨X, 256, none⟩) (Nat.le_refl _) _).alloc (by rw [hs6]; omega) _).alloc (by rw [World.size_alloc, hs6]; omega) _
      have HDB0 := Lib.hid hdb
      have HB6 := Lib.hid hb6
      have HGT := Lib.hid (HBT.out.trans (hb6.mono (by omega)))
      have HX6 := Lib.hid ((hb6.block g (by omega)).trans HX2.out)
      have HD26 := Lib.hid (HD2.out.below hb6 (by omega))
      have hs6' : X + 1 ≤ W6.heap.size := hdb.le
      obtain ⟨s5, hs5'⟩ : ∃ x, w5.heap.size = x := ⟨_, rfl⟩
      show Code.wp _ _ _ _ (((w5.setCell ⟨X, 256, none⟩ (.int .i64 (widN N : Int))).alloc (.cells #[] 3)).alloc (.cells #[.slice (some ⟨w5.heap.size, 0, none⟩) 0 0] 24))
      rw [← hW6]
      rw [hs5'] at HDB0 ⊢
      obtain ⟨wid, hwid⟩ : ∃ x, widN N = x := ⟨_, rfl⟩
      have HWID := Lib.hid hwid
      have hwidle : wid ≤ 256 := by rw [← hwid]; exact cnt_le _ _
      rw [hwid] at HDB0
      clear hdb hW6 hb6 HD6 HB5 HD5 HB4 c256 f256 hs6 hs5' HB3 hwid hs5 hs4 hs3
      go_loopw [8, 9] (fun fv iv wr => ∃ (k : Nat) (D : Df) (os nx : List (Sl Int)) (lb : List Int) (rest : List RowD), k ≤ os.length ∧ iv = .int .i64 (k : Int) ∧ DB (X + 1) X wr D fv os nx lb (.slice none 0 0) [] rest ∧ outerUp N M k = some (os.map Sl.xs, nx.map Sl.xs, lb) ∧ D.cl = clsL N.sets ∧ D.wd = (wid : Int) ∧ GoodF N M (os.map Sl.xs) ∧ Below X W6 wr) (fun _ i _ => M - (intOf i).toNat)
      case atStart => exact ⟨0, _, _, _, _, _, by omega, rfl, HDB0.out, rfl, rfl, rfl, ⟨by simp, by simp; omega, by simp⟩, Below.refl _ _⟩
      case round =>
        obtain ⟨k, D, os, nx, lb, rest, hk, rfl, hdb, hup, hcl, hwd, hgood, hbw⟩ := hrel
        have HDB := Lib.hid hdb
        have HUP := Lib.hid hup
        have HGO := Lib.hid hgood
        have HBW := Lib.hid hbw
        have hosM : os.length ≤ M := by have := hgood.2.1; rwa [List.length_map] at this
        have hgl : X + 1 ≤ wr.heap.size := hdb.le
        obtain ⟨fa, fc, rfl, hf1, hf2⟩ := own_form hdb.own.1
        have HDg := Lib.hid (HD26.out.below hbw (by omega))
        have HXg := Lib.hid ((hbw.block g (by omega)).trans HX6.out)
        have HBX2 := Lib.hid (HGT.out.trans (hbw.mono (by omega)))
        have HCL := Lib.hid hcl
        have HWD := Lib.hid hwd
        have HDX2 := Lib.hid hdb.box
        clear hdb hup hgood hbw hcl hwd
        by_cases hlt : k < os.length
        case neg =>
          obtain rfl : k = os.length := by omega
          have z2 : ¬ ((os.length : Int) < (os.length : Int)) := by omega
          have HFIN : Hid (buildR N (M : Int) = (⟨clsL N.sets, (wid : Int), nx.map Sl.xs, lb⟩, (os.length : Int), 0)) := Lib.hid (by
            rw [HE.out]
            have h1 := outer_end HUP.out (by rw [List.length_map]; exact Nat.le_refl _) (M + 1 - os.length)
            rw [show os.length + (M + 1 - os.length) = M + 1 by omega] at h1
            rw [h1]
            simp only [tabR, List.length_map]
            rw [HWID.out])
          go_wp2_with (first
            | (refine wpList_load_dfa rfl _ rfl X D rfl HDX2.out ?_)
            | (refine wpList_store_dfa rfl _ _ rfl (g + 1) zeroD D rfl rfl HDg.out ?_; intro w9 hD9 hB9 hO9 hS9))
          refine bodyPost_ret (results_dfa2 rfl _ _ (g + 1) D _ _ rfl rfl rfl hD9) rfl ?_
          rw [HFIN.out]
          have hm := (HDB.out.kept (w' := w9) (fun q hq hq2 => hO9 q (by omega)) (by omega)).mat
          rw [HCL.out, HWD.out] at hm
          exact ⟨D, rfl, hm, by first | exact HBX2.out.trans (hB9 g (by omega)) | (rw [HG.out]; exact HBX2.out.trans (hB9 g (by omega)))⟩
        case pos =>
          obtain ⟨b1, off1, A1, c1, xx, rfl, hb1, hx, d1, hr1⟩ := HDB.out.at_ hlt
          have hxN : xx.length ≤ 1000 := by have h1 := HGO.out.2.2 xx (List.mem_of_getElem? hx); have h2 := HLS.out; omega
          have z0 : (0 : Int) ≤ (k : Int) := by omega
          have z1 : (k : Int) < (os.length : Int) := by omega
          have HXK := Lib.hid hx
          have HDB1 := Lib.hid (HDB.out.new_c (w' := wr.alloc (.cells #[] 3)) ((Below.refl wr.heap.size wr).alloc (Nat.le_refl _) _) (own_zero wr wr.heap.size 3 1 (Nat.le_refl _)))
          have HBW1 := Lib.hid (HBW.out.alloc (by omega) (.cells #[] 3))
          obtain ⟨W7, hW7⟩ : ∃ W, W = wr.alloc (.cells #[] 3) := ⟨_, rfl⟩
          have HW7 := Lib.hid hW7
          rw [← hW7] at HDB1 HBW1
          obtain ⟨s7, hs7⟩ : ∃ q, wr.heap.size = q := ⟨_, rfl⟩
          rw [hs7] at HDB1
          have HS7 := Lib.hid hs7
          have HIN0 : Hid (innerUp N M xx k (os.map Sl.xs) 0 = some (os.map Sl.xs, [])) := Lib.hid rfl
          clear hx hr1 d1 hW7 hs7
          go_wp2_with fail
          rw [← HW7.out, HS7.out]
          obtain ⟨fa, hfa⟩ : ∃ q, q = some (⟨b1, off1, none⟩ : Addr) := ⟨_, rfl⟩
          skip
          go_loopg [8, 10, 11] wid (fun gk fv rv iv wq => ∃ (c : Nat) (os' : List (Sl Int)) (r : List Int) (rest' : List RowD), c + gk = wid ∧ iv = .int .i64 (c : Int) ∧ DB (X + 1) X wq D fv os' nx lb rv r rest' ∧ innerUp N M xx k (os.map Sl.xs) c = some (os'.map Sl.xs, r) ∧ Below X W6 wq)
          case atStart => exact ⟨0, _, _, _, by omega, rfl, HDB1.out, HIN0.out, HBW1.out⟩
          case round =>
            obtain ⟨c, os', r, rest', hc, rfl, hdb, hin, hbw⟩ := hrel
            have HDQ := Lib.hid hdb
            have HIN := Lib.hid hin
            have HBQ := Lib.hid hbw
            obtain ⟨fa, fc', rfl, hf1', hf2'⟩ := own_form hdb.own.1
            obtain ⟨ra, rc, rfl, hr1', hr2'⟩ := own_form hdb.own.2.2.2
            obtain ⟨hg', hrl, hlen', hkeep⟩ := inner_good HGO.out c hin
            have HG1 := Lib.hid hg'
            have hosM' : os'.length ≤ M := by have := hg'.2.1; rwa [List.length_map] at this
            have hkos : k < os'.length := by rw [List.length_map, List.length_map] at hlen'; omega
            have HXK' := Lib.hid (hkeep k xx HXK.out)
            have hrlen : r.length = c := hrl
            skip
            have HDXq := Lib.hid hdb.box
            have cw : wr.cell? ⟨X, 256, none⟩ = some (.int .i64 (wid : Int)) := by rw [← HWD.out]; exact hdb.box.wd
            have hgq : X + 1 ≤ wr.heap.size := hdb.le
            clear hdb hin hbw hg' hlen' hkeep hrl
            by_cases hltc : c < wid
            case neg =>
              have y1 : ¬ ((c : Int) < (wid : Int)) := by omega
              have hcw : c = wid := by omega
              have HUP2 := Lib.hid (outer_step HUP.out HXK.out (by rw [HWID.out, ← hcw]; exact HIN.out))
              clear hcw
              have hnl := outer_len k HUP.out
              rw [List.length_map] at hnl
              have HDR := Lib.hid (by have h := HDQ.out.free_c; rw [hrlen] at h; exact h : DB (X + 1) X wr D (.slice fa os'.length fc') os' nx lb (.slice none 0 0) [] (rest' ++ [inn ⟨ra, c, rc, r⟩]))
              have hgR : X + 1 ≤ wr.heap.size := HDR.out.le
              have c257 := HDXq.out.nx
              have HON := Lib.hid HDR.out.own.2.1
              have HAN := Lib.hid (app_sl HON.out ⟨ra, c, rc, r⟩ (by omega) hgR wr.heap.size rfl)
              have ne1 : (Value.slice D.na D.nl D.nc).ownBlock ≠ some X := by intro e; have := (HON.out.lt _ e).1; omega
              have NE1 := Lib.hid ne1
              clear ne1
              go_wp2_with (at_builtin; refine HAN.out _ _ _ _ _ rfl _ _ rfl rfl rfl ?_; intro gg cap w6 hownB hgrow hat; have HOB := Lib.hid hownB; have HGB := Lib.hid hgrow; have HAT := Lib.hid hat; have hdx6 : DfaAt w6 X D := (hgrow.block X (by simp; omega) (fun e => NE1.out e.symm)).trans ((heap_alloc_old wr _ (by omega)).trans HDXq.out); have cS := hdx6.nx; have fS := hdx6.frozen 257; clear hownB hgrow hat hdx6)
              have HD7 := Lib.hid (HDR.out.put_n ((Below.refl wr.heap.size wr).alloc (Nat.le_refl _) (.cells #[.slice ra c rc] 24)) HGB.out (a := some ⟨gg, 0, none⟩) (n := nx.length + 1) (c := cap) (z := ⟨ra, c, rc, r⟩) HOB.out (row_new HAT.out (by omega) rfl) ⟨List.mem_append_right _ (.head _), hrlen.symm⟩)
              have HB7 : Hid (Below X W6 (w6.setCell ⟨X, 257, none⟩ (.slice (some ⟨gg, 0, none⟩) (nx.length + 1) cap))) := Lib.hid ((below_grown (HBQ.out.alloc (by omega) _) (by simp; omega) HGB.out (fun q hq => by have := (own_ge HON.out hq).1; omega)).setCell (p := ⟨X, 257, none⟩) (Nat.le_refl _) _)
              obtain ⟨w7, hw7⟩ : ∃ W, W = w6.setCell ⟨X, 257, none⟩ (.slice (some ⟨gg, 0, none⟩) (nx.length + 1) cap) := ⟨_, rfl⟩
              rw [← hw7]
              rw [← hw7] at HD7 HB7
              clear hw7 cS fS c257 HOB HGB HAT HAN HON NE1 HDR
              have hg7 : X + 1 ≤ w7.heap.size := HD7.out.le
              have HX7 := Lib.hid ((HB7.out.block g (by omega)).trans HX6.out)
              obtain ⟨n0, n1, n2, n3, n4⟩ := netC (W := w7) (g := g) (v := v) HX7.out
              obtain ⟨b2, off2, A2, c2, xx', rfl, hb2, hx', d2, hr2⟩ := HD7.out.at_ hkos
              obtain rfl : xx = xx' := Option.some.inj (HXK'.out.symm.trans hx')
              have c258 : w7.cell? ⟨X, 258, none⟩ = some (.slice D.la D.ll D.lc) := HD7.out.box.lb
              have HTK : Hid (∀ X', Onto w7.drew X' → Calls Tryd.prog 38 #[.agg (netA v), .slice A2 xx.length c2] X' fun e w' => e = .returned (.int .i64 (tokenL N xx)) ∧ Below X'.heap.size X' w') := Lib.hid fun X' hX => rtoken_any X' v N A2 xx.length c2 xx (HV.out.below (by rw [HG.out]; exact (HGT.out.trans (HB7.out.mono (by omega))).trans ((onto_drew hX).mono (by omega)))) (hr2.below (onto_drew hX))
              obtain ⟨tk, htk⟩ : ∃ q, tokenL N xx = q := ⟨_, rfl⟩
              rw [htk] at HTK HUP2
              clear hx' hr2 htk
              obtain ⟨xl, hxl⟩ : ∃ q, xx.length = q := ⟨_, rfl⟩
              rw [hxl] at d2 HTK
              clear hxl
              have hkol : (k : Int) < (os'.length : Int) := by omega
              clear cw
              refine wp_region_fam_tail_lit (E := Onto) 9 3
                [isV (.pointer (some ⟨X, 258, none⟩)),
                 isV (.slice D.la D.ll D.lc),
                 isV (.agg (netA v)),
                 isV (.slice (some ⟨b2, off2, none⟩) os'.length fc'),
                 isV (.int .i64 (k : Int)),
                 isV (.pointer (some ⟨b2, off2 + k, none⟩)),
                 isV (.slice A2 xl c2),
                 isV (.int .i64 tk),
                 newB (intC tk) 3]
                [some 97, some 98, some 99, some 100, some 101, some 102, some 103, some 104, some 105] #[true, true, true, true, true, true, true, true, true, false, false, false] (by kernel_rfl) rfl (by kernel_rfl) (by kernel_rfl) rfl rfl rfl Onto.trans Onto.refl ?monoZ ?obZ ?qZ
              case monoZ => exact ⟨isV_mono _ _, isV_mono _ _, isV_mono _ _, isV_mono _ _, isV_mono _ _, isV_mono _ _, isV_mono _ _, isV_mono _ _, newB_mono _ _, trivial⟩
              case obZ =>
                refine Obs.cons (j := 1) rfl ?_ ?_
                · refine Ob.free [(7, none)] (by kernel_rfl) (isV (.pointer (some ⟨X, 258, none⟩))) rfl rfl (fun a X hE hL => ?_)
                  simp [Seen, slotAt] at hL
                  have h7 := hL
                  rw [relAt_eq]
                  go_simp
                  exact ⟨Onto.refl _, rfl⟩
                refine Obs.cons (j := 2) rfl ?_ ?_
                · refine Ob.free [(97, some 0)] (by kernel_rfl) (isV (.slice D.la D.ll D.lc)) rfl rfl (fun a X hE hL => ?_)
                  simp [Seen, slotAt, famV, isV] at hL
                  have h97 := hL
                  rw [relAt_eq]
                  have f0 := keeps hE _ _ c258
                  go_simp
                  exact ⟨Onto.refl _, rfl⟩
                refine Obs.cons (j := 3) rfl ?_ ?_
                · refine Ob.free [(2, none)] (by kernel_rfl) (isV (.agg (netA v))) rfl rfl (fun a X hE hL => ?_)
                  simp [Seen, slotAt] at hL
                  have h2 := hL
                  rw [relAt_eq]
                  have f0 := keeps hE _ _ n0; have f1 := keeps hE _ _ n1; have f2 := keeps hE _ _ n2; have f3 := keeps hE _ _ n3; have f4 := keeps hE _ _ n4
                  go_simp
                  exact ⟨Onto.refl _, rfl⟩
                refine Obs.cons (j := 4) rfl ?_ ?_
                · refine Ob.free [(8, none)] (by kernel_rfl) (isV (.slice (some ⟨b2, off2, none⟩) os'.length fc')) rfl rfl (fun a X hE hL => ?_)
                  simp [Seen, slotAt] at hL
                  have h8 := hL
                  rw [relAt_eq]
                  go_simp
                  exact ⟨Onto.refl _, rfl⟩
                refine Obs.cons (j := 5) rfl ?_ ?_
                · refine Ob.free [(9, none)] (by kernel_rfl) (isV (.int .i64 (k : Int))) rfl rfl (fun a X hE hL => ?_)
                  simp [Seen, slotAt] at hL
                  have h9 := hL
                  rw [relAt_eq]
                  go_simp
                  exact ⟨Onto.refl _, rfl⟩
                refine Obs.cons (j := 6) rfl ?_ ?_
                · refine Ob.free [(100, some 3), (101, some 4)] (by kernel_rfl) (isV (.pointer (some ⟨b2, off2 + k, none⟩))) rfl rfl (fun a X hE hL => ?_)
                  simp [Seen, slotAt, famV, isV] at hL
                  obtain ⟨h100, h101⟩ := hL
                  rw [relAt_eq]
                  go_simp
                  exact ⟨Onto.refl _, rfl⟩
                refine Obs.cons (j := 7) rfl ?_ ?_
                · refine Ob.free [(102, some 5)] (by kernel_rfl) (isV (.slice A2 xl c2)) rfl rfl (fun a X hE hL => ?_)
                  simp [Seen, slotAt, famV, isV] at hL
                  have h102 := hL
                  rw [relAt_eq]
                  have f0 := keeps hE _ _ d2
                  go_simp
                  exact ⟨Onto.refl _, rfl⟩
                refine Obs.cons (j := 8) rfl ?_ ?_
                · refine Ob.free [(99, some 2), (103, some 6)] (by kernel_rfl) (isV (.int .i64 tk)) rfl rfl (fun a X hE hL => ?_)
                  simp [Seen, slotAt, famV, isV] at hL
                  obtain ⟨h99, h103⟩ := hL
                  rw [relAt_eq]
                  go_simp
                  rw [relUpon_enter]
                  go_at_call 38
                  refine (HTK.out X hE).mono ?_
                  rintro e Y ⟨rfl, hY⟩
                  exact ⟨_, rfl, hY, rfl⟩
                refine Obs.cons (j := 9) rfl ?_ ?_
                · refine Ob.free [(104, some 7)] (by kernel_rfl) (newB (intC tk) 3) rfl rfl (fun a X hE hL => ?_)
                  simp [Seen, slotAt, famV, isV] at hL
                  have h104 := hL
                  rw [relAt_eq]
                  go_simp
                  exact ⟨(Below.refl _ _).alloc (Nat.le_refl _) _, X.heap.size, rfl, heap_alloc_new X _⟩
                exact trivial
              case qZ =>
                intro x wA hE hV
                simp [AllV, famV, isV] at hV
                obtain ⟨-, h98, -, -, -, -, -, -, h105⟩ := hV
                simp only [puts, Act.put, List.setIfInBounds_toArray, List.set_cons_zero, List.set_cons_succ, h98]
                generalize x 97 = y97
                generalize x 99 = y99
                generalize x 100 = y100
                generalize x 101 = y101
                generalize x 102 = y102
                generalize x 103 = y103
                generalize x 104 = y104
                generalize x 105 = y105 at h105 ⊢
                clear h98
                have hbA := onto_drew hE
                have HBA := Lib.hid hbA
                have HOA := Lib.hid (ownB HD7.out.own.2.2.1 hbA)
                have HXA := Lib.hid (HD7.out.below hbA).box
                have hgA : X + 1 ≤ wA.heap.size := by have := hbA.size; omega
                obtain ⟨gn, rfl, hgn⟩ := h105
                have ne3 : (Value.slice D.la D.ll D.lc).ownBlock ≠ some X := by intro e; have := (HOA.out.lt _ e).1; omega
                have NE3 := Lib.hid ne3
                clear hE hbA ne3 c258 d2 n0 n1 n2 n3 n4
                refine wpAny_ready (rs := [9]) (by kernel_rfl) (by simp) ?_
                refine AllReady.cons rfl (fun K hK => ?_) AllReady.nil
                rw [if_pos (by rfl)]
                refine wp_app_el (C := intC) (v := .slice D.la D.ll D.lc) (t := 24) (by decide) intC_len intC_one Tryd.underlying24 infoInt rfl _ _ _ rfl rfl HOA.out tk rfl hgn (by unfold maxLen; omega) (by omega) hgA ?_
                intro gg9 cap9 wB hownB hgrow hat
                have HOB := Lib.hid hownB
                have HGB := Lib.hid hgrow
                have HAT := Lib.hid hat
                have HXB : Hid (DfaAt wB X _) := Lib.hid ((hgrow.block X (by omega) (fun e => NE3.out e.symm)).trans HXA.out)
                clear hownB hgrow hat
                refine hK _ _ ?_
                clear hK K
                try simp only [Act.put, List.getElem_toArray, List.getElem_cons_succ, List.getElem_cons_zero, List.setIfInBounds_toArray, List.set_cons_zero, List.set_cons_succ]
                refine wpAny_take (i := 10) (v := .pointer (some ⟨X, 258, none⟩)) rfl (by kernel_rfl) (by kernel_rfl) (by kernel_rfl) (fun _ _ _ h => h) (Or.inl ⟨by rfl, fun X => ?_⟩) ?_
                · go_simp
                try simp only [Act.put, List.getElem_toArray, List.getElem_cons_succ, List.getElem_cons_zero, List.setIfInBounds_toArray, List.set_cons_zero, List.set_cons_succ]
                refine wpAny_ready (rs := [11]) (by kernel_rfl) (by simp) ?_
                refine AllReady.cons rfl (fun K hK => ?_) AllReady.nil
                rw [if_pos (by rfl)]
                have cS := HXB.out.lb
                have fS := HXB.out.frozen 258
                go_simp
                clear cS fS
                refine hK _ _ ?_
                clear hK K
                try simp only [Act.put, List.getElem_toArray, List.getElem_cons_succ, List.getElem_cons_zero, List.setIfInBounds_toArray, List.set_cons_zero, List.set_cons_succ]
                refine wpAny_done (by kernel_rfl) ?_ _
                have HDL := Lib.hid (HD7.out.put_l HBA.out HGB.out (a := some ⟨gg9, 0, none⟩) (n := lb.length + 1) (c := cap9) (z := tk) HOB.out (row_new HAT.out HBA.out.size rfl))
                have HBL : Hid (Below X W6 (wB.setCell ⟨X, 258, none⟩ (.slice (some ⟨gg9, 0, none⟩) (lb.length + 1) cap9))) := Lib.hid ((below_grown (HB7.out.trans (HBA.out.mono (by omega))) (by omega) HGB.out (fun q hq => by have := (own_ge HOA.out hq).1; omega)).setCell (p := ⟨X, 258, none⟩) (Nat.le_refl _) _)
                obtain ⟨w8, hw8⟩ : ∃ W, W = wB.setCell ⟨X, 258, none⟩ (.slice (some ⟨gg9, 0, none⟩) (lb.length + 1) cap9) := ⟨_, rfl⟩
                rw [← hw8]
                rw [← hw8] at HDL HBL
                clear hw8 HOB HGB HAT HXB HXA HOA HBA NE3
                have HUP3 : Hid (outerUp N M (k + 1) = some (os'.map Sl.xs, (nx ++ [(⟨ra, c, rc, r⟩ : Sl Int)]).map Sl.xs, lb ++ [tk])) := Lib.hid (by rw [List.map_append]; exact HUP2.out)
                go_wp2_with fail
                exact ⟨⟨k + 1, _, _, _, _, _, by omega, rfl, HDL.out, HUP3.out, HCL.out, HWD.out, HG1.out, HBL.out⟩, by simp only [intOf]; omega⟩
            case pos =>
              have y0 : (0 : Int) ≤ (c : Int) := by omega
              have y1 : (c : Int) < (wid : Int) := by omega
              obtain ⟨bt, hbt, hbl⟩ := firstB_lt N.sets c (by have h1 := HWID.out; unfold widN at h1; omega)
              have HBY : Hid (∀ X', Calls Tryd.prog 34 #[.agg (arrC D.cl), .int .i64 (c : Int)] X' fun e w' => ∃ v, e = .returned v ∧ w'.ownsRow X'.heap.size 5 1 v (firstB N.sets c :: bt).length (vals (firstB N.sets c :: bt)) ∧ Below X'.heap.size X' w') := Lib.hid fun X' => by rw [HCL.out, ← hbt]; exact refbytes_any (clsL N.sets) (fun i hi => by have h1 := cls_lt (sigL N.sets) hi; have h2 := cnt_le (sigL N.sets) 256; unfold clsL; omega) (c : Int) X'
              obtain ⟨b, hb⟩ : ∃ q, firstB N.sets c = q := ⟨_, rfl⟩
              have HTO : Hid (toL N xx k c = if k = 0 then startL N b else stepL N xx b) := Lib.hid (by unfold toL; rw [hb])
              rw [hb] at HBY hbl
              clear hbt hb
              go_wp2_with (refine wpList_load_dcl rfl _ rfl X D rfl HDXq.out ?_)
              refine (HBY.out _).mono ?_
              rintro e w3 ⟨vb, rfl, hob, hb3⟩
              obtain ⟨Ab, cb, rfl, _, _⟩ := own_form hob
              obtain ⟨gb, rfl, hgb1, hgb2, hgb3⟩ := own_at hob (by simp)
              have cb0 := hgb3 0 (.int .u8 (b : Int)) rfl
              have HB3 := Lib.hid hb3
              have HDQ3 := Lib.hid (HDQ.out.below hb3)
              have hg3 : X + 1 ≤ w3.heap.size := HDQ3.out.le
              obtain ⟨lb3, hlb3⟩ : ∃ q, (b :: bt).length = q := ⟨_, rfl⟩
              have hpos : (0 : Int) < (lb3 : Int) := by rw [← hlb3]; simp
              rw [hlb3]
              have HBX3 := Lib.hid (HBQ.out.trans (hb3.mono (by omega)))
              have HX3 := Lib.hid ((HBX3.out.block g (by omega)).trans HX6.out)
              obtain ⟨n0, n1, n2, n3, n4⟩ := netC (W := w3) (g := g) (v := v) HX3.out
              obtain ⟨b2, off2, A2, c2, xx', rfl, hb2, hx', d2, hr2⟩ := HDQ3.out.at_ hkos
              obtain rfl : xx = xx' := Option.some.inj (HXK'.out.symm.trans hx')
              have HWX : Hid (∀ X', Onto w3.drew X' → Below w.heap.size w X') := Lib.hid fun X' hX => by rw [HG.out]; exact (HGT.out.trans (HBX3.out.mono (by omega))).trans ((onto_drew hX).mono (by omega))
              have HST : Hid (∀ X', Onto w3.drew X' → Calls Tryd.prog 35 #[.agg (netA v), .slice A2 xx.length c2, .int .u8 (b : Int)] X' (Giv 3 1 intC X' (stepL N xx b))) := Lib.hid fun X' hX => rstep_any X' v N A2 xx.length c2 xx b hbl (HV.out.below (HWX.out X' hX)) (hr2.below (onto_drew hX)) (by omega) hxN HF.out
              obtain ⟨ts, hts⟩ : ∃ q, stepL N xx b = q := ⟨_, rfl⟩
              have HTS := Lib.hid hts
              rw [hts] at HST
              obtain ⟨xl, hxl⟩ : ∃ q, xx.length = q := ⟨_, rfl⟩
              rw [hxl] at d2 HST
              obtain ⟨ol, hol⟩ : ∃ q, os'.length = q := ⟨_, rfl⟩
              have HOL := Lib.hid hol
              clear hob hb3 hgb3 hlb3 hx' hr2 hts hgb1 hxl
              rw [hol]
              have hkol : (k : Int) < (ol : Int) := by omega
              clear hol
              go_wp2_with fail
              refine wp_region_fam_lit (E := Onto)
                [isV (.agg (netA v)),
                 isV (.slice (some ⟨b2, off2, none⟩) ol fc'),
                 isV (.int .i64 (k : Int)),
                 isV (.pointer (some ⟨b2, off2 + k, none⟩)),
                 isV (.slice A2 xl c2),
                 isV (.int .u8 (b : Int)),
                 gvI w3.heap.size ts,
                 gvI w3.heap.size ts]
                [some 56, some 57, some 58, some 59, some 60, some 61, some 62, some 13] (by kernel_rfl) rfl (by kernel_rfl) rfl Onto.trans Onto.refl ?monoS ?obS ?qS
              case monoS => exact ⟨isV_mono _ _, isV_mono _ _, isV_mono _ _, isV_mono _ _, isV_mono _ _, isV_mono _ _, gvI_mono _ _, gvI_mono _ _, trivial⟩
              case obS =>
                refine Obs.cons (j := 1) rfl ?_ ?_
                · refine Ob.free [(2, none)] (by kernel_rfl) (isV (.agg (netA v))) rfl rfl (fun a X hE hL => ?_)
                  simp [Seen, slotAt] at hL
                  have h2 := hL
                  rw [relAt_eq]
                  have f0 := keeps hE _ _ n0; have f1 := keeps hE _ _ n1; have f2 := keeps hE _ _ n2; have f3 := keeps hE _ _ n3; have f4 := keeps hE _ _ n4
                  go_simp
                  exact ⟨Onto.refl _, rfl⟩
                refine Obs.cons (j := 2) rfl ?_ ?_
                · refine Ob.free [(8, none)] (by kernel_rfl) (isV (.slice (some ⟨b2, off2, none⟩) ol fc')) rfl rfl (fun a X hE hL => ?_)
                  simp [Seen, slotAt] at hL
                  have h8 := hL
                  rw [relAt_eq]
                  go_simp
                  exact ⟨Onto.refl _, rfl⟩
                refine Obs.cons (j := 3) rfl ?_ ?_
                · refine Ob.free [(9, none)] (by kernel_rfl) (isV (.int .i64 (k : Int))) rfl rfl (fun a X hE hL => ?_)
                  simp [Seen, slotAt] at hL
                  have h9 := hL
                  rw [relAt_eq]
                  go_simp
                  exact ⟨Onto.refl _, rfl⟩
                refine Obs.cons (j := 4) rfl ?_ ?_
                · refine Ob.free [(57, some 1), (58, some 2)] (by kernel_rfl) (isV (.pointer (some ⟨b2, off2 + k, none⟩))) rfl rfl (fun a X hE hL => ?_)
                  simp [Seen, slotAt, famV, isV] at hL
                  obtain ⟨h57, h58⟩ := hL
                  rw [relAt_eq]
                  go_simp
                  exact ⟨Onto.refl _, rfl⟩
                refine Obs.cons (j := 5) rfl ?_ ?_
                · refine Ob.free [(59, some 3)] (by kernel_rfl) (isV (.slice A2 xl c2)) rfl rfl (fun a X hE hL => ?_)
                  simp [Seen, slotAt, famV, isV] at hL
                  have h59 := hL
                  rw [relAt_eq]
                  have f0 := keeps hE _ _ d2
                  go_simp
                  exact ⟨Onto.refl _, rfl⟩
                refine Obs.cons (j := 6) rfl ?_ ?_
                · refine Ob.free [(12, none)] (by kernel_rfl) (isV (.int .u8 (b : Int))) rfl rfl (fun a X hE hL => ?_)
                  simp [Seen, slotAt] at hL
                  have h12 := hL
                  rw [relAt_eq]
                  go_simp
                  exact ⟨Onto.refl _, rfl⟩
                refine Obs.cons (j := 7) rfl ?_ ?_
                · refine Ob.free [(56, some 0), (60, some 4), (61, some 5)] (by kernel_rfl) (gvI w3.heap.size ts) rfl rfl (fun a X hE hL => ?_)
                  simp [Seen, slotAt, famV, isV] at hL
                  obtain ⟨h56, h60, h61⟩ := hL
                  rw [relAt_eq]
                  go_simp
                  rw [relUpon_enter]
                  go_at_call 35
                  refine (HST.out X hE).mono ?_
                  rintro e Y ⟨A, c, rfl, ho, hY⟩
                  exact ⟨_, rfl, hY, A, c, rfl, own_mono ho (onto_drew hE).size⟩
                refine Obs.cons (j := 8) rfl ?_ ?_
                · refine Ob.free [(62, some 6)] (by kernel_rfl) (gvI w3.heap.size ts) rfl rfl (fun a X hE hL => ?_)
                  simp [Seen, slotAt, famV] at hL
                  have h62 := hL
                  rw [relAt_eq]
                  obtain ⟨A62, c62, e62, r62⟩ := h62
                  go_simp
                  exact ⟨Onto.refl _, A62, c62, rfl, r62⟩
                exact trivial
              case qS =>
                intro x wt hE hV
                simp [AllV, famV, isV] at hV
                obtain ⟨-, -, -, -, -, -, -, h13⟩ := hV
                simp only [puts, Act.put, List.setIfInBounds_toArray, List.set_cons_zero, List.set_cons_succ]
                generalize x 56 = y56
                generalize x 57 = y57
                generalize x 58 = y58
                generalize x 59 = y59
                generalize x 60 = y60
                generalize x 61 = y61
                generalize x 62 = y62
                generalize x 13 = y13 at h13 ⊢
                have hbt := onto_drew hE
                obtain ⟨At, ct, rfl, hot⟩ := h13
                have HBT3 := Lib.hid (HB3.out.trans (hbt.mono (by have := HB3.out.size; omega)))
                have hot' := own_mono hot (by have := HB3.out.size; omega : wr.heap.size ≤ w3.heap.size)
                have HOT := Lib.hid hot'
                have HXT := Lib.hid ((hbt.block g (by omega)).trans HX3.out)
                have HWT := Lib.hid (HWX.out wt hE)
                clear hE hbt hot hot' n0 n1 n2 n3 n4 d2 cb0 cw HST HDQ3 HX3 HBX3 HWX HBY HDXq hb2 hgb2 hpos
                go_upto_if 64 with (fail)
                go_cut [13] from 44 to 90 (fun s13 wc => ∃ (A : Option Addr) (ct nt : Nat) (tl : List Int), s13 = .slice A nt ct ∧ tl.length = nt ∧ toL N xx k c = tl ∧ wc.ownsRow wr.heap.size 3 1 (.slice A nt ct) nt (tl.flatMap intC) ∧ Below wr.heap.size wr wc)
                case first =>
                  by_cases hk0 : k = 0
                  case pos =>
                    have t0 : ((k : Int) == 0) = true := by rw [hk0]; rfl
                    have HTO2 : Hid (toL N xx k c = startL N b) := Lib.hid (by rw [HTO.out, if_pos hk0])
                    have HSA := Lib.hid (rstart_any wt v N b hbl (HV.out.below HWT.out) (by omega))
                    obtain ⟨n0, n1, n2, n3, n4⟩ := netC (W := wt) (g := g) (v := v) HXT.out
                    clear hk0 HOT
                    go_wp2_with fail
                    refine HSA.out.mono ?_
                    rintro e wt2 ⟨At2, ct2, rfl, hot2, hb2⟩
                    have HOT := Lib.hid (own_mono hot2 (HBT3.out.size))
                    have HBT4 := Lib.hid (HBT3.out.trans (hb2.mono HBT3.out.size))
                    clear hot2 hb2 n0 n1 n2 n3 n4 HSA
                    go_wp2_with fail
                    go_meet
                    exact ⟨At2, ct2, _, _, rfl, rfl, HTO2.out, HOT.out, HBT4.out⟩
                  case neg =>
                    have t0 : ((k : Int) == 0) = false := by rw [beq_eq_false_iff_ne]; omega
                    have HTL : Hid (toL N xx k c = ts) := Lib.hid (by rw [HTO.out, if_neg hk0, HTS.out])
                    clear hk0
                    go_wp2_with fail
                    go_meet
                    exact ⟨At, ct, _, ts, rfl, rfl, HTL.out, HOT.out, HBT3.out⟩
                case rest =>
                  clear HOT HBT3 HTS HTO HXT HWT
                  obtain ⟨At, ct, nt, tl, rfl, hnt, htl, hot, hbt⟩ := hcut
                  have HNT := Lib.hid hnt
                  have HTL := Lib.hid htl
                  have HBT3 := Lib.hid hbt
                  have HDT := Lib.hid (HDQ.out.add hbt (q := inn ⟨At, nt, ct, tl⟩) hot)
                  have HFI := Lib.hid (rfind_any wc (some ⟨b2, off2, none⟩) At os'.length nt fc' ct (os'.map Sl.xs) tl HDT.out.nrow (by have h := hot; rw [← hnt] at h ⊢; exact own_row intC_len h))
                  obtain ⟨fd, hfd⟩ : ∃ q, findL (os'.map Sl.xs) tl = q := ⟨_, rfl⟩
                  have HFD := Lib.hid hfd
                  have hfdb := findL_ge (os'.map Sl.xs) tl
                  rw [hfd, List.length_map, HOL.out] at hfdb
                  rw [hfd, HOL.out] at HFI
                  clear hnt hfd htl hot hbt
                  go_wp2_with fail
                  refine HFI.out.mono ?_
                  rintro e w5 ⟨rfl, hb5⟩
                  have HB5 := Lib.hid (HBT3.out.trans (hb5.mono HBT3.out.size))
                  have HD5 := Lib.hid (HDT.out.below hb5)
                  have HBX5 := Lib.hid (HBQ.out.trans (HB5.out.mono (by omega)))
                  have hg5 : X + 1 ≤ w5.heap.size := HD5.out.le
                  have holM : ol ≤ M := by rw [← HOL.out]; exact hosM'
                  clear hb5 HFI HDT
                  go_upto_if 73 with (fail)
                  go_cut [8, 14] from 44 to 90 (fun s8 s14 w' => ∃ (os'' : List (Sl Int)) (rest'' : List RowD) (z : Int), s14 = .int .i64 z ∧ DB (X + 1) X w' D s8 os'' nx lb (.slice ra c rc) r rest'' ∧ putF (os'.map Sl.xs) tl = os''.map Sl.xs ∧ atF (os'.map Sl.xs) tl = z ∧ os''.length ≤ M + 1 ∧ Below X W6 w')
                  case first =>
                    by_cases htl : nt = 0
                    case pos =>
                      have t1 : ((nt : Int) == 0) = true := by rw [htl]; rfl
                      have HP := Lib.hid (putF_nil (f := os'.map Sl.xs) (t := tl) (by rw [HNT.out]; exact htl))
                      clear htl
                      go_wp2_with fail
                      go_meet
                      exact ⟨os', _, -1, rfl, by have h := HD5.out; rw [HOL.out, hrlen] at h; exact h, HP.out.1, HP.out.2, by rw [HOL.out]; omega, HBX5.out⟩
                    case neg =>
                      have t1 : ((nt : Int) == 0) = false := by rw [beq_eq_false_iff_ne]; omega
                      by_cases hfn : fd < 0
                      case neg =>
                        have HP := Lib.hid (putF_old (f := os'.map Sl.xs) (t := tl) (by rw [HNT.out]; exact htl) (by rw [HFD.out]; exact hfn))
                        clear htl
                        go_wp2_with fail
                        go_meet
                        exact ⟨os', _, fd, rfl, by have h := HD5.out; rw [HOL.out, hrlen] at h; exact h, HP.out.1, by rw [HP.out.2, HFD.out], by rw [HOL.out]; omega, HBX5.out⟩
                      case pos =>
                        have HPF := Lib.hid (putF_new (f := os'.map Sl.xs) (t := tl) (by rw [HNT.out]; exact htl) (by rw [HFD.out]; exact hfn))
                        have HOF : Hid (w5.ownsRow (X + 1) 24 1 (.slice (some ⟨b2, off2, none⟩) ol fc') ol (os'.flatMap seC)) := Lib.hid (by rw [← HOL.out]; exact HD5.out.own.1)
                        have HAF := Lib.hid (app_sl HOF.out ⟨At, nt, ct, tl⟩ (by omega) hg5 w5.heap.size rfl)
                        clear htl
                        go_wp2_with (at_builtin; refine HAF.out _ _ _ _ _ rfl _ _ rfl rfl rfl ?_; intro gg cap w6 hownF hgrowF hatF; have HOB := Lib.hid hownF; have HGB := Lib.hid hgrowF; have HAT := Lib.hid hatF; clear hownF hgrowF hatF)
                        go_meet
                        have hin5 : inn ⟨At, nt, ct, tl⟩ ∈ rest' ++ [inn ⟨At, nt, ct, tl⟩] := List.mem_append_right _ (.head _)
                        have HD6 := HD5.out.put_f ((Below.refl w5.heap.size w5).alloc (Nat.le_refl _) (.cells #[.slice At nt ct] 24)) (by rw [HOL.out]; exact HGB.out) (v := .slice (some ⟨gg, 0, none⟩) (ol + 1) cap) (z := ⟨At, nt, ct, tl⟩) (by rw [HOL.out]; exact HOB.out) (by rw [HOL.out]; exact row_new HAT.out (by omega) rfl) ⟨hin5, HNT.out.symm⟩
                        have hb6 : Below X W6 _ := below_grown (HBX5.out.alloc (by omega) _) (by simp; omega) HGB.out (fun q hq => by have := (own_ge HOF.out hq).1; omega)
                        rw [hrlen] at HD6
                        exact ⟨os' ++ [⟨At, nt, ct, tl⟩], _, (ol : Int), rfl, HD6, by rw [HPF.out.1, List.map_append]; rfl, by rw [HPF.out.2, List.length_map, HOL.out], by rw [List.length_append, HOL.out]; simp; omega, hb6⟩
                  case rest =>
                    clear HD5 HBX5 HB5 hg5 HFD HBT3 holM
                    obtain ⟨os2, rest2, z, rfl, hd2, hp1, hp2, ho2, hb2⟩ := hcut
                    obtain ⟨fa2, fc2, rfl, _, _⟩ := own_form hd2.own.1
                    obtain ⟨ol2, hol2⟩ : ∃ q, os2.length = q := ⟨_, rfl⟩
                    have HOL2 := Lib.hid hol2
                    have HD5 := Lib.hid hd2
                    have HPF := Lib.hid (⟨hp1, hp2⟩ : _ ∧ _)
                    have HBX5 := Lib.hid hb2
                    have HDg5 := Lib.hid (HD26.out.below hb2 (by omega))
                    rw [hol2] at ho2 ⊢
                    clear hd2 hp1 hp2 hb2 hol2
                    by_cases hM4 : M < ol2
                    case pos =>
                      have t3 : (M : Int) < (ol2 : Int) := by omega
                      have HFAIL : Hid (buildR N (M : Int) = (ms0, 0, 16)) := Lib.hid (by rw [HE.out, outer_fail HUP.out HXK.out (c := c + 1) (by rw [HWID.out]; omega) (inner_fail HIN.out HTL.out HPF.out (by rw [List.length_map, HOL2.out]; exact hM4)) (by omega)]; rfl)
                      go_wp2_with (refine wpList_store_dfa rfl _ _ rfl (g + 1) zeroD zeroD rfl zv_dfa HDg5.out ?_; intro w9 hD9 hB9 hO9 hS9)
                      refine bodyPost_ret (results_dfa2 rfl _ _ (g + 1) zeroD _ _ rfl rfl rfl hD9) rfl ?_
                      rw [HFAIL.out]
                      exact ⟨zeroD, rfl, mat0 _, by first | exact (HGT.out.trans (HBX5.out.mono (by omega))).trans (hB9 g (by omega)) | (rw [HG.out]; exact (HGT.out.trans (HBX5.out.mono (by omega))).trans (hB9 g (by omega)))⟩
                    case neg =>
                      have t3 : ¬ ((M : Int) < (ol2 : Int)) := by omega
                      have HP := Lib.hid (inner_next HIN.out HTL.out HPF.out (by rw [List.length_map, HOL2.out]; omega))
                      have hg5 : X + 1 ≤ wc.heap.size := HD5.out.le
                      have HOR : Hid (wc.ownsRow (X + 1) 3 1 (.slice ra c rc) c (r.flatMap intC)) := Lib.hid (by have h := HD5.out.own.2.2.2; rw [hrlen] at h; exact h)
                      have HAP := Lib.hid (app_int HOR.out z (by omega) hg5 wc.heap.size rfl)
                      go_wp2_with (at_builtin; refine HAP.out _ _ _ _ _ rfl _ _ rfl rfl rfl ?_; intro gg5 cap5 w9 hownB hgrow hat; have HOB := Lib.hid hownB; have HGB := Lib.hid hgrow; have HAT := Lib.hid hat; clear hownB hgrow hat)
                      have HDN := Lib.hid (HD5.out.put_c ((Below.refl wc.heap.size wc).alloc (Nat.le_refl _) (.cells #[.int .i64 z] 3)) HGB.out (v := .slice (some ⟨gg5, 0, none⟩) (c + 1) cap5) (z := z) (by rw [hrlen]; exact HOB.out) (row_new HAT.out (by omega) rfl))
                      rw [HOL2.out] at HDN
                      have HBN : Hid (Below X W6 w9) := Lib.hid (below_grown (HBX5.out.alloc (by omega) _) (by simp; omega) HGB.out (fun q hq => by have := (own_ge HOR.out hq).1; omega))
                      go_roundg (wid - (c + 1))
                      case measure => omega
                      case rel => exact ⟨c + 1, _, _, _, by omega, rfl, HDN.out, HP.out, HBN.out⟩
end Go.Proofs.YtenijacffcdnaaaDoor
/- The chapter's example: two expressions, their net, its table. -/
namespace Go.Proofs.YtenijacffcdnaaaDoor
open Go.RowKit
set_option linter.unusedVariables false

def exT1 : RxT := .plus (.set fun x => x == 97)
def exT2 : RxT := .cat (.set fun x => x == 97) (.set fun x => x == 98)
def exS1 : ByteArray := ⟨#[97, 43]⟩
def exS2 : ByteArray := ⟨#[97, 98]⟩
theorem ex_txt1 : textF exS1 3 0 = some (post exT1, 2) := by kernel_rfl
theorem ex_txt2 : textF exS2 3 0 = some (post exT2, 2) := by kernel_rfl
theorem ex_chk1 : chkR (post exT1) = 0 := by kernel_rfl
theorem ex_chk2 : chkR (post exT2) = 0 := by kernel_rfl
def exN : NetS := fuseN [some exT1, some exT2]
def exSets : List (Nat → Bool) := [fun x => x == 97, fun x => x == 97, fun x => x == 98]
theorem exN_eq : exN = ⟨exSets, [0, 1, 1], [true, false, true], [[0], [2], []], [0, 1]⟩ := by kernel_rfl
theorem ex_wid : cnt (sigL exSets) 256 = 3 := by decide +kernel
theorem ex_f0 : firstB exSets 0 = 0 := by decide +kernel
theorem ex_f1 : firstB exSets 1 = 97 := by decide +kernel
theorem ex_f2 : firstB exSets 2 = 98 := by decide +kernel
def exNx : List (List Int) := [[-1, 1, -1], [-1, 2, 3], [-1, 2, -1], [-1, -1, -1]]
def exLb : List Int := [-1, 0, 0, 1]
def exF : List (List Int) := [[], [0, 1], [0], [2]]
def exN' : NetS := ⟨exSets, [0, 1, 1], [true, false, true], [[0], [2], []], [0, 1]⟩
theorem ex_net : netR exN' = true := by decide +kernel
theorem ex_out4 : outerUp exN' 50 4 = some (exF, exNx, exLb) := by decide +kernel
theorem ex_build : buildR exN 50 = (⟨clsL exSets, 3, exNx, exLb⟩, 4, 0) := by
  rw [exN_eq]
  have h := outer_end ex_out4 (by decide) 47
  show buildR exN' 50 = _
  unfold buildR
  rw [if_neg (by rw [ex_net]; decide), if_neg (by decide)]
  show tabR exN' (outerUp exN' 50 (4 + 47)) = _
  rw [h]
  show ((⟨clsL exSets, (cnt (sigL exSets) 256 : Int), exNx, exLb⟩ : MS), ((exF.length : Nat) : Int), (0 : Int)) = _
  rw [ex_wid]; rfl
def exM : MS := ⟨clsL exSets, 3, exNx, exLb⟩
theorem ex_right : rightM exM = true := by decide +kernel
end Go.Proofs.YtenijacffcdnaaaDoor
/- The reader: Read, of a text that is one expression. -/
namespace Go.Proofs.YtenijacffcdnaaaDoor
open Go.RowKit Go.PlainAid
set_option linter.unusedVariables false
set_option linter.unusedSimpArgs false

set_option maxHeartbeats 4000000 in
theorem read_any (s : ByteArray) (f : Nat) (l : List Rx) (m : Nat) (hs : s.size = m) (hm : m ≤ 1000) (h : textF s f 0 = some (l, m)) (hl : l.length ≤ 512) (w : World) :
    Calls Tryd.prog 21 #[.string s] w fun e w' => ∃ A c, e = .returned (.tuple #[.slice A l.length c, .int .i64 (m : Int), .int .i64 0]) ∧ w'.ownsRow w.heap.size 104 5 (.slice A l.length c) l.length (l.flatMap rxC) ∧ Below w.heap.size w w' := by
  have HT := Lib.hid (text_all s (by omega) f 0 w l m h)
  have HS := Lib.hid hs
  have z1 : ¬ 4096 < (s.size : Int) := by omega
  have z2 : ¬ 4096 < s.size := by omega
  have z3 : (s.size : Int) = (m : Int) := by omega
  have z4 : ¬ (m : Int) < (m : Int) := by omega
  have z5 : ¬ 512 < (l.length : Int) := by omega
  clear h hs
  go_enter Tryd.func21, Tryd.ntmps21
  go_wp2_with fail
  refine HT.out.mono ?_
  rintro e w2 ⟨A, c, rfl, ho, hb⟩
  have HO := Lib.hid ho
  have HB := Lib.hid hb
  clear ho hb
  go_wp2
  go_ret3
  exact ⟨A, c, rfl, HO.out, HB.out⟩
end Go.Proofs.YtenijacffcdnaaaDoor
/- The chapter's example, cut. -/
namespace Go.Proofs.YtenijacffcdnaaaDoor
open Go.RowKit Go.Sort Go.PlainAid
set_option linter.unusedVariables false
set_option linter.unusedSimpArgs false

def exAab : ByteArray := ⟨#[97, 97, 98]⟩
def exPs : List Pc := [⟨0, ⟨#[97, 97]⟩⟩, ⟨-1, ⟨#[98]⟩⟩]
set_option maxRecDepth 100000 in
theorem ex_same : samePs (pcsR exM (LS exAab)) exPs = true := by decide +kernel
theorem ex_whole : wholeM exM ⟨1, exS2⟩ = true := by decide +kernel
theorem ex_cls (i : Nat) : i < 256 → exM.cl i < 256 := fun h => by
  have h9 : ∀ j : Fin 256, exM.cl j.val < 256 := by decide +kernel
  exact h9 ⟨i, h⟩
/-- A list in a new block of its own. -/
theorem crow_lit {α : Type} {C : α → List Value} {k : Nat} (hk : ∀ o, (C o).length = k) (w : World) (g : Nat) (hg : w.heap.size = g) (e : TypeId) (os : List α) (cs : Array Value) (hcs : cs = (os.flatMap C).toArray) (n : Nat) (hn : os.length = n) (hl : n ≤ 1000) :
    CRow C k (w.alloc (.cells cs e)) (some ⟨g, 0, none⟩) n os := by
  subst hcs hg
  refine ⟨hn, by omega, fun _ => ⟨_, 0, rfl, by simp, fun i o hi j v hv => ?_⟩⟩
  have h1 := flat_get hk os i o hi j v hv
  rw [World.cell?_alloc_new]
  simpa using h1
theorem exread1 (w : World) : Calls Tryd.prog 21 #[.string ⟨#[97, 43]⟩] w fun e w' => ∃ A c, e = .returned (.tuple #[.slice A 2 c, .int .i64 2, .int .i64 0]) ∧ CRow rxC 5 w' A 2 (post exT1) ∧ Below w.heap.size w w' :=
  (read_any exS1 3 (post exT1) 2 rfl (by omega) ex_txt1 (by decide) w).mono fun e w' ⟨A, c, he, ho, hb⟩ => ⟨A, c, he, own_row rxC_len ho, hb⟩
theorem exread2 (w : World) : Calls Tryd.prog 21 #[.string ⟨#[97, 98]⟩] w fun e w' => ∃ A c, e = .returned (.tuple #[.slice A 3 c, .int .i64 2, .int .i64 0]) ∧ CRow rxC 5 w' A 3 (post exT2) ∧ Below w.heap.size w w' :=
  (read_any exS2 3 (post exT2) 2 rfl (by omega) ex_txt2 (by decide) w).mono fun e w' ⟨A, c, he, ho, hb⟩ => ⟨A, c, he, own_row rxC_len ho, hb⟩
def exTk (A : Option Addr) (c : Nat) (B : Option Addr) (d : Nat) : List TkN := [⟨.string ⟨#[]⟩, A, 2, c, 0, some exT1⟩, ⟨.string ⟨#[]⟩, B, 3, d, 0, some exT2⟩]
theorem exfuse (w : World) (A : Option Addr) (c : Nat) (B : Option Addr) (d : Nat) (g : Nat) (hg : w.heap.size = g) (h1 : CRow rxC 5 w A 2 (post exT1)) (h2 : CRow rxC 5 w B 3 (post exT2)) :
    Calls Tryd.prog 23 #[.slice (some ⟨g, 0, none⟩) 2 2] (w.alloc (.cells #[.string ⟨#[]⟩, .slice A 2 c, .int .i64 0, .string ⟨#[]⟩, .slice B 3 d, .int .i64 0] 57)) fun e w' => ∃ v, e = .returned (.agg (netA v)) ∧ NetAt w' v exN ∧ Below w.heap.size w w' := by
  have hb : Below w.heap.size w (w.alloc (.cells #[.string ⟨#[]⟩, .slice A 2 c, .int .i64 0, .string ⟨#[]⟩, .slice B 3 d, .int .i64 0] 57)) := (Below.refl _ _).alloc (Nat.le_refl _) _
  refine (fuse_any _ (some ⟨g, 0, none⟩) 2 2 (exTk A c B d) ⟨crow_lit (C := tknC) (k := 3) (fun _ => rfl) w g hg _ (exTk A c B d) _ rfl 2 rfl (by omega), fun t ht => ?_⟩ (by omega)).mono ?_
  · simp only [exTk, List.mem_cons, List.not_mem_nil, or_false] at ht
    rcases ht with rfl | rfl
    · exact ⟨⟨h1.below hb, ex_chk1⟩, by show 2 ≤ 600; omega⟩
    · exact ⟨⟨h2.below hb, ex_chk2⟩, by show 3 ≤ 600; omega⟩
  · rintro e w' ⟨v, he, hN, hb'⟩
    exact ⟨v, he, hN, hb.trans (hb'.mono (by simp))⟩
theorem exbuild (w : World) (v : Nv) (hN : NetAt w v exN) :
    Calls Tryd.prog 22 #[.agg (netA v), .int .i64 50] w fun e w' => ∃ D, e = .returned (.tuple #[.agg (dfA D), .int .i64 4, .int .i64 0]) ∧ MAt w' D exM ∧ Below w.heap.size w w' := by
  have h := rbuild_any w v exN 50 hN (by
    have := hN.s.1
    rw [exN_eq] at this
    have h3 : (3 : Nat) = v.sn := this
    omega) (by rw [exN_eq]; intro l hl; simp at hl; rcases hl with rfl | rfl | rfl <;> simp)
  rw [ex_build] at h
  exact h
attribute [local go_sem ↓] loadA_eq storeA_eq loadD_eq
set_option maxHeartbeats 4000000 in
set_option maxRecDepth 100000 in
theorem mknows_any (w : World) (hN : NoneS w) : Calls Tryd.prog 8 #[] w fun e w' => e = .returned (.bool true) ∧ Below w.heap.size w w' := by
  have HNN := Lib.hid hN
  clear hN
  go_enter Tryd.func8, Tryd.ntmps8
  go_wp2_with fail
  refine (exread1 w).mono ?_
  rintro e w1 ⟨A1, c1, rfl, hr1, hb1⟩
  have HR1 := Lib.hid hr1
  have HB1 := Lib.hid hb1
  clear hr1 hb1
  go_wp2_with fail
  refine (exread2 w1).mono ?_
  rintro e w2 ⟨A2, c2, rfl, hr2, hb2⟩
  have HR2 := Lib.hid hr2
  have HR1' := Lib.hid (HR1.out.below hb2)
  have HB2 := Lib.hid (HB1.out.trans (hb2.mono HB1.out.size))
  clear hr2 hb2
  obtain ⟨g, hg⟩ : ∃ g, w2.heap.size = g := ⟨_, rfl⟩
  have HG := Lib.hid hg
  have HFU := Lib.hid (exfuse w2 A1 c1 A2 c2 g hg HR1'.out HR2.out)
  go_wp2_with fail
  refine HFU.out.mono ?_
  rintro e w3 ⟨v, rfl, hN3, hb3⟩
  have HBD := Lib.hid (exbuild w3 v hN3)
  have HB3 := Lib.hid (HB2.out.trans (hb3.mono HB2.out.size))
  clear hN3 hb3
  go_wp2_with fail
  refine HBD.out.mono ?_
  rintro e w4 ⟨D, rfl, hM, hb4⟩
  have HB4 := Lib.hid (HB3.out.trans (hb4.mono HB3.out.size))
  have HM4 := Lib.hid hM
  obtain ⟨X, hX⟩ : ∃ X, w4.heap.size = X := ⟨_, rfl⟩
  have HX := Lib.hid hX
  have hd4 : DfaAt (w4.alloc (.cells Tryd.zeroCells26 26)) X zeroD := by rw [zc_dfa]; exact DfaAt.new _ _ _ hX
  have HD4 := Lib.hid hd4
  clear hM hb4 hd4
  go_wp2_with (refine wpList_store_dfa rfl _ _ rfl X zeroD D rfl rfl HD4.out ?_; intro w5 hD5 hB5 hO5 hS5; have hb5 : Below w4.heap.size w4 w5 := ((Below.refl _ w4).alloc (Nat.le_refl _) _).trans (hB5 _ (by rw [HX.out]; exact Nat.le_refl _)); have HD5 := Lib.hid hD5; have HB5 := Lib.hid (HB4.out.trans (hb5.mono HB4.out.size)); have HM5 := Lib.hid (HM4.out.below hb5); have HCU := Lib.hid (mcut_any w5 D exM exAab HM5.out ex_cls (HNN.out.below HB5.out) (by decide)); have hld := run_loadD w5 X D hD5; unfold exAab at HCU; clear hD5 hB5 hO5 hS5 hb5)
  have hsm : samePs (pcsR exM (LS ⟨#[97, 97, 98]⟩)) exPs = true := ex_same
  obtain ⟨ps, hps⟩ : ∃ ps, pcsR exM (LS ⟨#[97, 97, 98]⟩) = ps := ⟨_, rfl⟩
  rw [hps] at HCU hsm
  obtain ⟨n, hn⟩ : ∃ n, ps.length = n := ⟨_, rfl⟩
  rw [hn] at HCU
  refine HCU.out.mono ?_
  rintro e w6 ⟨A, c, rfl, hrow, hb6⟩
  have hlt := HD5.out.lt
  have hld6 := run_loadD w6 X D (HD5.out.below hb6 hlt)
  have HB6 := Lib.hid (HB5.out.trans (hb6.mono HB5.out.size))
  obtain ⟨h, hh⟩ : ∃ h, w6.heap.size = h := ⟨_, rfl⟩
  have HH := Lib.hid hh
  have HD6 := Lib.hid (HD5.out.below hb6 hlt)
  have HM6 := Lib.hid (HM5.out.below hb6)
  have hab : Below w6.heap.size w6 (w6.alloc (.cells #[.int .i64 0, .string ⟨#[97, 97]⟩, .int .i64 (-1), .string ⟨#[98]⟩] 33)) := (Below.refl _ _).alloc (Nat.le_refl _) _
  have hsa := psame_any _ A (some ⟨h, 0, none⟩) n 2 c 2 ps exPs (hrow.below hab) (crow_lit (C := pcC) (k := 2) (fun _ => rfl) w6 h hh 33 exPs #[.int .i64 0, .string ⟨#[97, 97]⟩, .int .i64 (-1), .string ⟨#[98]⟩] rfl 2 rfl (by omega))
  rw [hsm] at hsa
  have HSA := Lib.hid hsa
  have HAB := Lib.hid hab
  clear hrow hb6 hab hsa hld hsm hps hn
  go_wp2_with fail
  refine HSA.out.mono ?_
  rintro e w7 ⟨rfl, hb7⟩
  have hb67 : Below w6.heap.size w6 w7 := HAB.out.trans (hb7.mono (by simp))
  have HB7 := Lib.hid (HB6.out.trans (hb67.mono HB6.out.size))
  have hld7 := run_loadD w7 X D (HD6.out.below hb67 HD6.out.lt)
  have hwh := mwhole_any w7 D exM ⟨1, exS2⟩ (HM6.out.below hb67) ex_cls (HNN.out.below HB7.out) (by decide)
  rw [ex_whole] at hwh
  unfold exS2 at hwh
  simp only at hwh
  have HWH := Lib.hid hwh
  clear hb67 hb7 hld6 hwh
  go_wp2_with fail
  refine HWH.out.mono ?_
  rintro e w8 ⟨rfl, hb8⟩
  have HB8 := Lib.hid (HB7.out.trans (hb8.mono HB7.out.size))
  clear hb8 hld7
  go_wp2
  go_ret
  exact ⟨rfl, HB8.out⟩
end Go.Proofs.YtenijacffcdnaaaDoor
/- The law of the token at a place. -/
namespace Go.Proofs.YtenijacffcdnaaaDoor
open Go.RowKit Go.Sort Go.PlainAid
set_option linter.unusedVariables false
set_option linter.unusedSimpArgs false

attribute [local go_sem ↓] loadA_eq storeA_eq loadD_eq
set_option maxHeartbeats 4000000 in
set_option maxRecDepth 100000 in
theorem lawNext_any (w : World) (D : Df) (M : MS) (s : ByteArray) (z : Int) (h : MAt w D M) (hC : ∀ i, i < 256 → M.cl i < 256) (hN : NoneS w) :
    Calls Tryd.prog 3 #[.agg (dfA D), .string s, .int .i64 z] w fun e w' => e = .returned (.bool true) ∧ Below w.heap.size w w' := by
  have HM := Lib.hid h
  have HCC := Lib.hid hC
  have HNN := Lib.hid hN
  have hnm := h.nx.len.2
  obtain ⟨g, hg⟩ : ∃ g, w.heap.size = g := ⟨_, rfl⟩
  have HG := Lib.hid hg
  obtain ⟨W1, hW1, hs1, hb1, hd1⟩ := box_dfa hg D
  have HSM := Lib.hid (small_any W1 D M (h.below (by rw [hg]; exact hb1)))
  have HK := Lib.hid fun X (hX : Below g w X) => mknows_any X (hN.below (by rw [hg]; exact hX))
  have HW1 := Lib.hid hW1
  have HB1 := Lib.hid hb1
  have HS1 := Lib.hid hs1
  have HD1 := Lib.hid hd1
  have hld := run_loadD W1 g D hd1
  have d257 := hd1.nx
  rw [hW1] at hld HSM d257
  clear h hC hN hW1 hs1 hb1 hd1
  go_enter Tryd.func3, Tryd.ntmps3
  go_wp2_with fail
  refine HSM.out.mono ?_
  rintro e w2 ⟨⟨b, rfl⟩, hb2⟩
  have hb2' : Below W1.heap.size W1 w2 := by rw [← HW1.out] at hb2; exact hb2
  have HB2 : Hid (Below g w w2) := Lib.hid (HB1.out.trans (hb2'.mono (by have := HS1.out; omega)))
  have HB12 := Lib.hid hb2'
  have HD2 := Lib.hid (HD1.out.below hb2' HD1.out.lt)
  have hgl : g + 1 ≤ w2.heap.size := HD2.out.lt
  have e257 := HD2.out.nx
  have hld2 := run_loadD w2 g D HD2.out
  have HK2 := Lib.hid (HK.out w2 HB2.out)
  clear hb2 hb2' hld d257
  have HFN : ∀ e w3, (e = Ending.returned (.bool true) ∧ Below w2.heap.size w2 w3) → Below g w w3 := fun e w3 hh => HB2.out.trans (hh.2.mono (by omega))
  cases b with
  | false =>
    go_wp2_with fail
    refine HK2.out.mono ?_
    rintro e w3 hh
    have HB3 := Lib.hid (HFN e w3 hh)
    obtain ⟨rfl, _⟩ := hh
    go_wp2
    go_ret
    exact ⟨rfl, by first | exact HB3.out | (rw [HG.out]; exact HB3.out)⟩
  | true =>
  by_cases hb60 : 60 < D.nl
  · have z1 : (60 : Int) < (D.nl : Int) := by omega
    go_wp2_with fail
    refine HK2.out.mono ?_
    rintro e w3 hh
    have HB3 := Lib.hid (HFN e w3 hh)
    obtain ⟨rfl, _⟩ := hh
    go_wp2
    go_ret
    exact ⟨rfl, by first | exact HB3.out | (rw [HG.out]; exact HB3.out)⟩
  by_cases hs60 : 60 < s.size
  · have z1 : ¬ (60 : Int) < (D.nl : Int) := by omega
    have z2 : (60 : Int) < (s.size : Int) := by omega
    go_wp2_with fail
    refine HK2.out.mono ?_
    rintro e w3 hh
    have HB3 := Lib.hid (HFN e w3 hh)
    obtain ⟨rfl, _⟩ := hh
    go_wp2
    go_ret
    exact ⟨rfl, by first | exact HB3.out | (rw [HG.out]; exact HB3.out)⟩
  have z1 : ¬ (60 : Int) < (D.nl : Int) := by omega
  have z2 : ¬ (60 : Int) < (s.size : Int) := by omega
  have HNX := Lib.hid (munchNext_any w2 D M s z (HM.out.below (by rw [HG.out]; exact HB2.out)) HCC.out (HNN.out.below (by rw [HG.out]; exact HB2.out)) (by omega))
  obtain ⟨⟨r1, r2⟩, hr⟩ : ∃ r, anyNext M (LS s) z = r := ⟨_, rfl⟩
  have HR := Lib.hid hr
  rw [hr] at HNX
  clear hr
  go_wp2_with fail
  refine HNX.out.mono ?_
  rintro e w3 ⟨rfl, hb3⟩
  have HB3 : Hid (Below g w w3) := Lib.hid (HB2.out.trans (hb3.mono (by omega)))
  have HD3 := Lib.hid (HD2.out.below hb3 HD2.out.lt)
  have hgl3 : g + 1 ≤ w3.heap.size := HD3.out.lt
  have hld3 := run_loadD w3 g D HD3.out
  have HRX := Lib.hid (rnext_any w3 D M s z (HM.out.below (by rw [HG.out]; exact HB3.out)) HCC.out (by omega))
  rw [HR.out] at HRX
  clear hb3 hld2 e257
  go_wp2_with fail
  refine HRX.out.mono ?_
  rintro e w4 ⟨rfl, hb4⟩
  have HB4 : Hid (Below g w w4) := Lib.hid (HB3.out.trans (hb4.mono (by omega)))
  have hgl4 : g + 1 ≤ w4.heap.size := by have := hb4.size; omega
  have HK4 := Lib.hid (HK.out w4 HB4.out)
  clear hb4 hld3
  go_wp2_with fail
  refine HK4.out.mono ?_
  rintro e w5 ⟨rfl, hb5⟩
  have HB5 : Hid (Below g w w5) := Lib.hid (HB4.out.trans (hb5.mono (by omega)))
  clear hb5
  go_wp2
  go_ret
  exact ⟨rfl, by first | exact HB5.out | (rw [HG.out]; exact HB5.out)⟩
end Go.Proofs.YtenijacffcdnaaaDoor
/- What the listed variable gives the walks; the world that the initialiser leaves; a machine that came in, opened. -/
namespace Go.Proofs.YtenijacffcdnaaaDoor
open Go.RowKit

def tabL {H : Type} : List (String × DataW H) := [("facsimile/munch.none", Rows.laid_facsimile_munch_none)]
def tabZ : List Int := [-1, 0]
theorem tab_data : (Rows.laid_facsimile_munch_none : DataW Unit) = Lib.tabData .i64 tabZ := rfl
theorem gTab : Tryd.prog.globalNamed "facsimile/munch.none" = some 0 := by kernel_rfl
theorem tTab : (Tryd.prog.globals[0]?).map (·.type) = some 60 := by kernel_rfl
theorem c2T : Tryd.prog.cellsOf 60 = 2 := by kernel_rfl
theorem c1T : Tryd.prog.cellsOf 3 = 1 := by kernel_rfl
theorem of_laid {W : World} (h : laidMetH Tryd.prog tabL W) : NoneS W := by
  rw [MakeChecks.laidMetH_plain _ _ _ (by kernel_rfl)] at h
  have h2 := Lib.tabIs_of_head gTab tTab Tryd.underlying60 Tryd.underlying3 c1T c2T (show laidMet Tryd.prog (("facsimile/munch.none", Lib.tabData .i64 tabZ) :: []) W from h)
  exact ⟨h2.cell gTab 0 (by decide), h2.cell gTab 1 (by decide)⟩
/-- The door's own heap meets the condition. -/
theorem door_met (os : Os) (args : Array Value) : laidMetH Tryd.prog tabL ((World.doorLaid Tryd.prog 19 os).forCall (fun _ _ => 0) ⟨#[], args, []⟩).memory :=
  laidMetH_of_parts3 (fuel := 8) (laidMet_of_run' 8 (by kernel_rfl) (by kernel_rfl)) (by kernel_rfl) (by kernel_rfl)
end Go.Proofs.YtenijacffcdnaaaDoor
/- A machine, a piece, a list of numbers, and a list of such, that came in, opened. -/
namespace Go.Proofs.YtenijacffcdnaaaDoor
open Go.RowKit Go.ChangeShapes Go.WideShapes Go.Deep

theorem okWide_arr {P : Program} {w : World} {r : Reach} {base : Nat} {t : TypeId} {v : Value} {n : Nat} {e : TypeId} (ht : P.underlying t = some (.array n e)) (h : Value.okWide P w r base t v) : ∃ cs, v = .agg cs ∧ cs.size = P.cellsOf t := by
  unfold Value.okWide at h
  simp only [ht] at h
  obtain ⟨cs, rfl, h1, _⟩ := h
  exact ⟨cs, rfl, h1⟩
theorem cellsArr : Tryd.prog.cellsOf 22 = 256 := by kernel_rfl
theorem cellsU8 : Tryd.prog.cellsOf 5 = 1 := by kernel_rfl
set_option maxRecDepth 100000 in
theorem arr_open {H : Type} {enc : TypeId × Value → H} {W : World} {fuel : Nat} {cs : Array Value} {x : DataW H × List MemPlace}
    (h : DataW.trod enc Tryd.prog W 0 (fun _ => true) true fuel 22 cs.toList = some x) : ∃ C : Nat → Nat, cs = arrC C ∧ ∀ i, C i < 256 := by
  obtain ⟨xs, m, rfl, rfl, hl, hx, hi⟩ := DataW.trod_array Tryd.underlying22 h
  rw [cellsArr] at hl
  rw [cellsU8] at hi
  have hsz : cs.size = 256 := by simpa using hl
  refine arrC_of cs hsz fun i hic => ?_
  have hh := hi i (by omega)
  rw [List.getElem?_eq_getElem (show i < xs.length by omega)] at hh
  obtain ⟨n, e, _, wn⟩ := DataW.trod_int Tryd.underlying5 hh
  have he : cs[i] = .int .u8 n := by
    have h2 : (List.take 1 (List.drop (i * 1) cs.toList))[0]? = some (.int .u8 n) := by rw [e]; rfl
    rw [List.getElem?_take_of_lt (by omega), List.getElem?_drop] at h2
    simpa [hic] using h2
  have hb := bounds_u8 wn
  exact ⟨n.toNat, by rw [he]; congr 1; omega, by omega⟩
theorem cells_int : Tryd.prog.cellsOf 3 = 1 := by kernel_rfl
theorem cells_ints : Tryd.prog.cellsOf 24 = 1 := by kernel_rfl
theorem cells_intss : Tryd.prog.cellsOf 23 = 1 := by kernel_rfl
theorem cells_dfa : Tryd.prog.cellsOf 26 = 259 := by kernel_rfl
section
variable {H : Type} {enc : TypeId × Value → H} {W : World} {fuel : Nat}
theorem ints_open {a : Option Addr} {len cap : Nat} {x : DataW H × List MemPlace} (h : DataW.trod enc Tryd.prog W 0 (fun _ => true) true fuel 24 [.slice a len cap] = some x) : ∃ zs, CRow intC 1 W a len zs := by
  obtain ⟨os, ho, _⟩ := crow_open (C := intC) (G := fun _ => True) Tryd.underlying24 cells_int (by decide) (fun n cs y hy hl => by
    match cs, hl with
    | [c0], _ =>
      obtain ⟨k, e0, _, _⟩ := DataW.trod_int Tryd.underlying3 hy
      exact ⟨k, e0, trivial⟩) h
  exact ⟨os, ho⟩
theorem intss_open {a : Option Addr} {len cap : Nat} {x : DataW H × List MemPlace} (h : DataW.trod enc Tryd.prog W 0 (fun _ => true) true fuel 23 [.slice a len cap] = some x) : ∃ ls, NRow intC 1 W a len ls := by
  obtain ⟨os, ho, hg, _⟩ := crow_open (C := seC (α := Int)) (G := fun o => CRow intC 1 W o.a o.l o.xs) Tryd.underlying23 cells_ints (by decide) (fun n cs y hy hl => by
    match cs, hl with
    | [c0], _ =>
      obtain ⟨a, l, c, e0⟩ := Joins.slice_form Tryd.underlying24 hy
      simp at e0
      subst e0
      obtain ⟨zs, hz⟩ := ints_open hy
      exact ⟨⟨a, l, c, zs⟩, rfl, hz⟩) h
  exact ⟨_, os, ho, hg, rfl⟩
theorem at_one {cs : Array Value} {k : Nat} {v : Value} (h : (cs.toList.drop k).take 1 = [v]) : cs[k]? = some v := by
  have h1 := congrArg (fun l => l[0]?) h
  simp only [List.getElem?_cons_zero] at h1
  rw [List.getElem?_take_of_lt (by omega), List.getElem?_drop, Nat.add_zero, Array.getElem?_toList] at h1
  exact h1
set_option maxRecDepth 100000 in
theorem dfa_open {cs : Array Value} {x : DataW H × List MemPlace} (h : DataW.trod enc Tryd.prog W 0 (fun _ => true) true fuel 26 cs.toList = some x) (hs : cs.size = 259) :
    ∃ (D : Df) (M : MS), cs = dfA D ∧ MAt W D M ∧ ∀ i, M.cl i < 256 := by
  obtain ⟨y0, y1, y2, y3, n, rfl, hl, g0, g1, g2, g3⟩ := Joins.trod_struct4 Tryd.underlying26 h
  simp only [cellsArr, cells_int, cells_intss, cells_ints] at g0 g1 g2 g3
  obtain ⟨C, hC, hlt⟩ := arr_open (cs := ((cs.toList.drop 0).take 256).toArray) (by simpa using g0)
  obtain ⟨z, e1, _, _⟩ := DataW.trod_int Tryd.underlying3 g1
  obtain ⟨na, nl, nc, e2⟩ := Joins.slice_form Tryd.underlying23 g2
  obtain ⟨la, ll, lc, e3⟩ := Joins.slice_form Tryd.underlying24 g3
  rw [e2] at g2
  rw [e3] at g3
  obtain ⟨ls, hls⟩ := intss_open g2
  obtain ⟨zs, hzs⟩ := ints_open g3
  refine ⟨⟨C, z, na, nl, nc, la, ll, lc⟩, ⟨C, z, ls, zs⟩, dfA_ext hs (fun i hi => ?_) (at_one e1) (at_one e2) (at_one e3), ⟨rfl, rfl, hls, hzs⟩, hlt⟩
  have h1 := congrArg (fun A => A[i]?) hC
  simp only [arrC_at C i hi, List.drop_zero, List.getElem?_toArray] at h1
  rw [List.getElem?_take_of_lt hi, Array.getElem?_toList] at h1
  exact h1
end
end Go.Proofs.YtenijacffcdnaaaDoor
/- Is a piece cut into itself: the document's. -/
namespace Go.Proofs.YtenijacffcdnaaaDoor
open Go.RowKit Go.Sort Go.PlainAid
set_option linter.unusedVariables false
set_option linter.unusedSimpArgs false

/-- A row of just these pieces. -/
def pcX (ps : List Pc) (v : Value) (x : World) : Prop := ∃ A c, v = .slice A ps.length c ∧ CRow pcC 2 x A ps.length ps
theorem pcX_mono (ps : List Pc) : ∀ v x y, pcX ps v x → Onto x y → pcX ps v y := fun v x y ⟨A, c, e, h⟩ hE => ⟨A, c, e, h.below hE⟩
attribute [local go_sem ↓] loadA_eq storeA_eq loadD_eq
set_option maxHeartbeats 4000000 in
set_option maxRecDepth 100000 in
theorem rwhole_any (w : World) (D : Df) (M : MS) (p : Pc) (h : MAt w D M) (hC : ∀ i, i < 256 → M.cl i < 256) (hs : p.s.size ≤ 100000) :
    Calls Tryd.prog 17 #[.agg (dfA D), .agg #[.int .i64 p.t, .string p.s]] w fun e w' => e = .returned (.bool (wholeM M p)) ∧ Below w.heap.size w w' := by
  obtain ⟨r, hr⟩ : ∃ r, wholeM M p = r := ⟨_, rfl⟩
  have HR := Lib.hid hr
  rw [hr]
  obtain ⟨g, hg⟩ : ∃ g, w.heap.size = g := ⟨_, rfl⟩
  have HG := Lib.hid hg
  obtain ⟨W1, hW1⟩ : ∃ W, W = (w.alloc (.cells (dfA D) 26)).alloc (.cells #[.int .i64 p.t, .string p.s] 33) := ⟨_, rfl⟩
  have hs1 : W1.heap.size = g + 2 := by rw [hW1]; simp [hg]
  have hb1 : Below g w W1 := by rw [hW1, ← hg]; exact ((Below.refl _ _).alloc (Nat.le_refl _) _).alloc (by simp) _
  have hd1 : DfaAt W1 g D := by rw [hW1]; exact (DfaAt.new w D g hg).alloc _
  have hp1 : PcAt W1 (g + 1) p := by
    have := heap_alloc_new (w.alloc (.cells (dfA D) 26)) (.cells #[.int .i64 p.t, .string p.s] 33)
    rw [World.size_alloc, hg] at this
    rw [hW1]; exact this
  have c0 := hp1.c0
  have c1 := hp1.c1
  have HLD := Lib.hid fun X (hX : Onto W1.drew X) => run_loadD X g D (hd1.below (onto_drew hX) hd1.lt)
  have HCU := Lib.hid fun X (hX : Onto W1.drew X) => rcut_any X D M p.s ((h.below (by rw [hg]; exact hb1)).below (onto_drew hX)) hC hs
  obtain ⟨ps, hps⟩ : ∃ ps, pcsR M (LS p.s) = ps := ⟨_, rfl⟩
  rw [hps] at HCU
  obtain ⟨q, hq⟩ : ∃ q, samePs ps [p] = q := ⟨_, rfl⟩
  have HQ := Lib.hid hq
  have HWH := Lib.hid (whole_ref M p)
  rw [hps, hq, hr] at HWH
  have HB1 := Lib.hid hb1
  have HW1 := Lib.hid hW1
  clear h hC hs1 hb1 hd1 hp1 hps hq hr
  go_enter Tryd.func17, Tryd.ntmps17
  go_wp2_with fail
  rw [← HW1.out]
  clear hW1
  by_cases h0 : p.s.size = 0
  case pos =>
    have HE : Hid (r = false) := Lib.hid (by rw [← HWH.out, decide_eq_false (by omega), Bool.false_and])
    have HNE : Hid (p.s.toList.isEmpty = true) := Lib.hid (by have hl : p.s.data.toList = [] := List.length_eq_zero_iff.1 (by rw [Array.length_toList]; exact h0); rw [Lib.toList_data, hl]; rfl)
    clear h0
    refine wp_region_fam_lit (E := Onto)
      [isV (.pointer (some ⟨g + 1, 1, none⟩)),
       isV (.string p.s),
       isV (.bool false),
       isV (.bool false),
       isV undef,
       isV undef,
       isV undef,
       isV undef,
       isV undef,
       isV undef,
       isV undef,
       isV (.bool false),
       isV (.bool false)]
      [some 5, some 6, some 7, some 8, some 9, some 10, some 11, some 12, some 13, some 14, some 15, some 16, some 4] (by kernel_rfl) rfl (by kernel_rfl) rfl Onto.trans Onto.refl ?monoE ?obE ?qE
    case monoE => exact ⟨isV_mono _ _, isV_mono _ _, isV_mono _ _, isV_mono _ _, isV_mono _ _, isV_mono _ _, isV_mono _ _, isV_mono _ _, isV_mono _ _, isV_mono _ _, isV_mono _ _, isV_mono _ _, isV_mono _ _, trivial⟩
    case obE =>
      refine Obs.cons (j := 1) rfl ?_ ?_
      · refine Ob.free [(3, none)] (by kernel_rfl) (isV (.pointer (some ⟨g + 1, 1, none⟩))) rfl rfl (fun a X hE hL => ?_)
        simp [Seen, slotAt] at hL
        have h3 := hL
        rw [relAt_eq]
        go_simp
        exact ⟨Onto.refl _, rfl⟩
      refine Obs.cons (j := 2) rfl ?_ ?_
      · refine Ob.free [(5, some 0)] (by kernel_rfl) (isV (.string p.s)) rfl rfl (fun a X hE hL => ?_)
        simp [Seen, slotAt, famV, isV] at hL
        have h5 := hL
        rw [relAt_eq]
        have f0 := keeps hE _ _ c1
        go_simp
        exact ⟨Onto.refl _, rfl⟩
      refine Obs.cons (j := 3) rfl ?_ ?_
      · refine Ob.free [(6, some 1)] (by kernel_rfl) (isV (.bool false)) rfl rfl (fun a X hE hL => ?_)
        simp [Seen, slotAt, famV, isV] at hL
        have h6 := hL
        rw [relAt_eq]
        have hq := HNE.out
        go_simp
        exact ⟨Onto.refl _, rfl⟩
      refine Obs.cons (j := 4) rfl ?_ ?_
      · refine Ob.free [(7, some 2)] (by kernel_rfl) (isV (.bool false)) rfl rfl (fun a X hE hL => ?_)
        simp [Seen, slotAt, famV, isV] at hL
        have h7 := hL
        rw [relAt_eq]
        go_simp
        exact ⟨Onto.refl _, rfl⟩
      refine Obs.cons (j := 5) rfl ?_ ?_
      · refine Ob.skip [(2, none), (8, some 3)] (by kernel_rfl) rfl 3 true 8 rfl rfl (fun a X hE hL => ?_)
        simp [Seen, slotAt, famV, isV] at hL
        obtain ⟨h2, h8⟩ := hL
        simpa using h8
      refine Obs.cons (j := 6) rfl ?_ ?_
      · refine Ob.skip [(3, none), (8, some 3)] (by kernel_rfl) rfl 3 true 8 rfl rfl (fun a X hE hL => ?_)
        simp [Seen, slotAt, famV, isV] at hL
        obtain ⟨h3, h8⟩ := hL
        simpa using h8
      refine Obs.cons (j := 7) rfl ?_ ?_
      · refine Ob.skip [(10, some 5), (8, some 3)] (by kernel_rfl) rfl 3 true 8 rfl rfl (fun a X hE hL => ?_)
        simp [Seen, slotAt, famV, isV] at hL
        obtain ⟨h10, h8⟩ := hL
        simpa using h8
      refine Obs.cons (j := 8) rfl ?_ ?_
      · refine Ob.skip [(9, some 4), (11, some 6), (8, some 3)] (by kernel_rfl) rfl 3 true 8 rfl rfl (fun a X hE hL => ?_)
        simp [Seen, slotAt, famV, isV] at hL
        obtain ⟨h9, h11, h8⟩ := hL
        simpa using h8
      refine Obs.cons (j := 9) rfl ?_ ?_
      · refine Ob.skip [(3, none), (8, some 3)] (by kernel_rfl) rfl 3 true 8 rfl rfl (fun a X hE hL => ?_)
        simp [Seen, slotAt, famV, isV] at hL
        obtain ⟨h3, h8⟩ := hL
        simpa using h8
      refine Obs.cons (j := 10) rfl ?_ ?_
      · refine Ob.skip [(13, some 8), (8, some 3)] (by kernel_rfl) rfl 3 true 8 rfl rfl (fun a X hE hL => ?_)
        simp [Seen, slotAt, famV, isV] at hL
        obtain ⟨h13, h8⟩ := hL
        simpa using h8
      refine Obs.cons (j := 11) rfl ?_ ?_
      · refine Ob.skip [(12, some 7), (14, some 9), (8, some 3)] (by kernel_rfl) rfl 3 true 8 rfl rfl (fun a X hE hL => ?_)
        simp [Seen, slotAt, famV, isV] at hL
        obtain ⟨h12, h14, h8⟩ := hL
        simpa using h8
      refine Obs.cons (j := 12) rfl ?_ ?_
      · refine Ob.free [(8, some 3), (15, some 10)] (by kernel_rfl) (isV (.bool false)) rfl rfl (fun a X hE hL => ?_)
        simp [Seen, slotAt, famV, isV] at hL
        obtain ⟨h8, h15⟩ := hL
        rw [relAt_eq]
        go_simp
        exact ⟨Onto.refl _, rfl⟩
      refine Obs.cons (j := 13) rfl ?_ ?_
      · refine Ob.free [(16, some 11)] (by kernel_rfl) (isV (.bool false)) rfl rfl (fun a X hE hL => ?_)
        simp [Seen, slotAt, famV, isV] at hL
        have h16 := hL
        rw [relAt_eq]
        go_simp
        exact ⟨Onto.refl _, rfl⟩
      exact trivial
    case qE =>
      intro x wq hE hV
      simp [AllV, famV, isV] at hV
      obtain ⟨-, -, -, -, -, -, -, -, -, -, -, -, h4⟩ := hV
      simp only [puts, Act.put, List.setIfInBounds_toArray, List.set_cons_zero, List.set_cons_succ, h4]
      generalize x 5 = y5
      generalize x 6 = y6
      generalize x 7 = y7
      generalize x 8 = y8
      generalize x 9 = y9
      generalize x 10 = y10
      generalize x 11 = y11
      generalize x 12 = y12
      generalize x 13 = y13
      generalize x 14 = y14
      generalize x 15 = y15
      generalize x 16 = y16
      clear h4
      have HBQ := Lib.hid (HB1.out.trans ((onto_drew hE).mono (by have := HW1.out; rw [this]; simp [HG.out]; omega)))
      clear hE
      go_wp2
      go_ret
      exact ⟨ret_bool HE.out.symm, by first | exact HBQ.out | (rw [HG.out]; exact HBQ.out)⟩
  case neg =>
    have HE : Hid (r = q) := Lib.hid (by rw [← HWH.out, decide_eq_true (by omega), Bool.true_and])
    have HNE : Hid (p.s.toList.isEmpty = false) := Lib.hid (by rw [Lib.toList_data]; cases hl : p.s.data.toList with | nil => exact absurd (by rw [← LS_len]; unfold LS; rw [hl]; rfl) h0 | cons x l => rfl)
    clear h0
    refine wp_region_fam_lit (E := Onto)
      [isV (.pointer (some ⟨g + 1, 1, none⟩)),
       isV (.string p.s),
       isV (.bool true),
       isV (.bool true),
       isV (.agg (dfA D)),
       isV (.pointer (some ⟨g + 1, 1, none⟩)),
       isV (.string p.s),
       pcX ps,
       isV (.agg #[.int .i64 p.t, .string p.s]),
       pcX [p],
       isV (.bool q),
       isV (.bool q),
       isV (.bool q)]
      [some 5, some 6, some 7, some 8, some 9, some 10, some 11, some 12, some 13, some 14, some 15, some 16, some 4] (by kernel_rfl) rfl (by kernel_rfl) rfl Onto.trans Onto.refl ?monoN ?obN ?qN
    case monoN => exact ⟨isV_mono _ _, isV_mono _ _, isV_mono _ _, isV_mono _ _, isV_mono _ _, isV_mono _ _, isV_mono _ _, pcX_mono _, isV_mono _ _, pcX_mono _, isV_mono _ _, isV_mono _ _, isV_mono _ _, trivial⟩
    case obN =>
      refine Obs.cons (j := 1) rfl ?_ ?_
      · refine Ob.free [(3, none)] (by kernel_rfl) (isV (.pointer (some ⟨g + 1, 1, none⟩))) rfl rfl (fun a X hE hL => ?_)
        simp [Seen, slotAt] at hL
        have h3 := hL
        rw [relAt_eq]
        go_simp
        exact ⟨Onto.refl _, rfl⟩
      refine Obs.cons (j := 2) rfl ?_ ?_
      · refine Ob.free [(5, some 0)] (by kernel_rfl) (isV (.string p.s)) rfl rfl (fun a X hE hL => ?_)
        simp [Seen, slotAt, famV, isV] at hL
        have h5 := hL
        rw [relAt_eq]
        have f0 := keeps hE _ _ c1
        go_simp
        exact ⟨Onto.refl _, rfl⟩
      refine Obs.cons (j := 3) rfl ?_ ?_
      · refine Ob.free [(6, some 1)] (by kernel_rfl) (isV (.bool true)) rfl rfl (fun a X hE hL => ?_)
        simp [Seen, slotAt, famV, isV] at hL
        have h6 := hL
        rw [relAt_eq]
        have hq := HNE.out
        go_simp
        exact ⟨Onto.refl _, rfl⟩
      refine Obs.cons (j := 4) rfl ?_ ?_
      · refine Ob.free [(7, some 2)] (by kernel_rfl) (isV (.bool true)) rfl rfl (fun a X hE hL => ?_)
        simp [Seen, slotAt, famV, isV] at hL
        have h7 := hL
        rw [relAt_eq]
        go_simp
        exact ⟨Onto.refl _, rfl⟩
      refine Obs.cons (j := 5) rfl ?_ ?_
      · refine Ob.guarded [(2, none), (8, some 3)] (by kernel_rfl) (isV (.agg (dfA D))) rfl 3 true 8 rfl rfl (fun a X hE hL => ?_)
        simp [Seen, slotAt, famV, isV] at hL
        obtain ⟨h2, h8⟩ := hL
        refine ⟨by simpa using h8, ?_⟩
        clear h8
        rw [relAt_eq]
        have hl := HLD.out X hE
        go_simp
        exact ⟨Onto.refl _, rfl⟩
      refine Obs.cons (j := 6) rfl ?_ ?_
      · refine Ob.guarded [(3, none), (8, some 3)] (by kernel_rfl) (isV (.pointer (some ⟨g + 1, 1, none⟩))) rfl 3 true 8 rfl rfl (fun a X hE hL => ?_)
        simp [Seen, slotAt, famV, isV] at hL
        obtain ⟨h3, h8⟩ := hL
        refine ⟨by simpa using h8, ?_⟩
        clear h8
        rw [relAt_eq]
        go_simp
        exact ⟨Onto.refl _, rfl⟩
      refine Obs.cons (j := 7) rfl ?_ ?_
      · refine Ob.guarded [(10, some 5), (8, some 3)] (by kernel_rfl) (isV (.string p.s)) rfl 3 true 8 rfl rfl (fun a X hE hL => ?_)
        simp [Seen, slotAt, famV, isV] at hL
        obtain ⟨h10, h8⟩ := hL
        refine ⟨by simpa using h8, ?_⟩
        clear h8
        rw [relAt_eq]
        have f0 := keeps hE _ _ c1
        go_simp
        exact ⟨Onto.refl _, rfl⟩
      refine Obs.cons (j := 8) rfl ?_ ?_
      · refine Ob.guarded [(9, some 4), (11, some 6), (8, some 3)] (by kernel_rfl) (pcX ps) rfl 3 true 8 rfl rfl (fun a X hE hL => ?_)
        simp [Seen, slotAt, famV, isV] at hL
        obtain ⟨h9, h11, h8⟩ := hL
        refine ⟨by simpa using h8, ?_⟩
        clear h8
        rw [relAt_eq]
        go_simp
        rw [relUpon_enter]
        go_at_call 13
        refine (HCU.out X hE).mono ?_
        rintro e Y ⟨A, c, rfl, ho, hY⟩
        exact ⟨_, rfl, hY, A, c, rfl, own_row pcC_len ho⟩
      refine Obs.cons (j := 9) rfl ?_ ?_
      · refine Ob.guarded [(3, none), (8, some 3)] (by kernel_rfl) (isV (.agg #[.int .i64 p.t, .string p.s])) rfl 3 true 8 rfl rfl (fun a X hE hL => ?_)
        simp [Seen, slotAt, famV, isV] at hL
        obtain ⟨h3, h8⟩ := hL
        refine ⟨by simpa using h8, ?_⟩
        clear h8
        rw [relAt_eq]
        have f0 := keeps hE _ _ c0; have f1 := keeps hE _ _ c1
        go_simp
        exact ⟨Onto.refl _, rfl⟩
      refine Obs.cons (j := 10) rfl ?_ ?_
      · refine Ob.guarded [(13, some 8), (8, some 3)] (by kernel_rfl) (pcX [p]) rfl 3 true 8 rfl rfl (fun a X hE hL => ?_)
        simp [Seen, slotAt, famV, isV] at hL
        obtain ⟨h13, h8⟩ := hL
        refine ⟨by simpa using h8, ?_⟩
        clear h8
        rw [relAt_eq]
        go_simp
        exact ⟨(Below.refl _ _).alloc (Nat.le_refl _) _, _, _, rfl, crow_lit (C := pcC) (k := 2) (fun _ => rfl) X X.heap.size rfl _ [p] _ rfl 1 rfl (by omega)⟩
      refine Obs.cons (j := 11) rfl ?_ ?_
      · refine Ob.guarded [(12, some 7), (14, some 9), (8, some 3)] (by kernel_rfl) (isV (.bool q)) rfl 3 true 8 rfl rfl (fun a X hE hL => ?_)
        simp [Seen, slotAt, famV, isV] at hL
        obtain ⟨h12, h14, h8⟩ := hL
        refine ⟨by simpa using h8, ?_⟩
        clear h8
        rw [relAt_eq]
        obtain ⟨A1, c1, e1, r1⟩ := h12
        obtain ⟨A2, c2, e2, r2⟩ := h14
        go_simp
        rw [relUpon_enter]
        go_at_call 12
        refine (psame_any X A1 A2 _ _ c1 c2 ps [p] r1 r2).mono ?_
        rintro e Y ⟨rfl, hY⟩
        exact ⟨_, rfl, hY, congrArg Value.bool HQ.out⟩
      refine Obs.cons (j := 12) rfl ?_ ?_
      · refine Ob.free [(8, some 3), (15, some 10)] (by kernel_rfl) (isV (.bool q)) rfl rfl (fun a X hE hL => ?_)
        simp [Seen, slotAt, famV, isV] at hL
        obtain ⟨h8, h15⟩ := hL
        rw [relAt_eq]
        go_simp
        exact ⟨Onto.refl _, rfl⟩
      refine Obs.cons (j := 13) rfl ?_ ?_
      · refine Ob.free [(16, some 11)] (by kernel_rfl) (isV (.bool q)) rfl rfl (fun a X hE hL => ?_)
        simp [Seen, slotAt, famV, isV] at hL
        have h16 := hL
        rw [relAt_eq]
        go_simp
        exact ⟨Onto.refl _, rfl⟩
      exact trivial
    case qN =>
      intro x wq hE hV
      simp [AllV, famV, isV] at hV
      obtain ⟨-, -, -, -, -, -, -, -, -, -, -, -, h4⟩ := hV
      simp only [puts, Act.put, List.setIfInBounds_toArray, List.set_cons_zero, List.set_cons_succ, h4]
      generalize x 5 = y5
      generalize x 6 = y6
      generalize x 7 = y7
      generalize x 8 = y8
      generalize x 9 = y9
      generalize x 10 = y10
      generalize x 11 = y11
      generalize x 12 = y12
      generalize x 13 = y13
      generalize x 14 = y14
      generalize x 15 = y15
      generalize x 16 = y16
      clear h4
      have HBQ := Lib.hid (HB1.out.trans ((onto_drew hE).mono (by have := HW1.out; rw [this]; simp [HG.out]; omega)))
      clear hE
      go_wp2
      go_ret
      exact ⟨ret_bool HE.out.symm, by first | exact HBQ.out | (rw [HG.out]; exact HBQ.out)⟩
end Go.Proofs.YtenijacffcdnaaaDoor
/- A piece that came in, opened; as the frames ask. -/
namespace Go.Proofs.YtenijacffcdnaaaDoor
open Go.RowKit Go.ChangeShapes Go.WideShapes Go.Deep

theorem cells_str : Tryd.prog.cellsOf 9 = 1 := by kernel_rfl
theorem cells_pc : Tryd.prog.cellsOf 33 = 2 := by kernel_rfl
theorem pc_open {H : Type} {enc : TypeId × Value → H} {W : World} {fuel : Nat} {cs : Array Value} {x : DataW H × List MemPlace} (h : DataW.trod enc Tryd.prog W 0 (fun _ => true) true fuel 33 cs.toList = some x) (hl : cs.size = 2) : ∃ p : Pc, cs = #[.int .i64 p.t, .string p.s] := by
  obtain ⟨l⟩ := cs
  match l, hl with
  | [c0, c1], _ =>
    obtain ⟨y0, y1, n, rfl, _, g0, g1⟩ := trod_struct2 Tryd.underlying33 h
    simp only [cells_int, cells_str, List.drop_zero, List.drop_succ_cons, List.take_succ_cons, List.take_zero] at g0 g1
    obtain ⟨k, e0, _, _⟩ := DataW.trod_int Tryd.underlying3 g0
    obtain ⟨s, e1, _, _⟩ := DataW.trod_string Tryd.underlying9 g1
    simp at e0 e1
    subst e0 e1
    exact ⟨⟨k, s⟩, rfl⟩
end Go.Proofs.YtenijacffcdnaaaDoor
