/- rx: a text's bytes as steps. -/
import Derived.Test.YtjlmmpbichfaoaaRxCat
import Derived.PlainAid
namespace Go.Proofs.Ytjlmmpbichfaoaa
open Go.RowKit Go.PlainAid
set_option linter.unusedVariables false

def bN (s : ByteArray) (k : Nat) : Nat := (bt s k).toNat
theorem bN_lt (s : ByteArray) (k : Nat) : bN s k < 256 := by have := bt_le s k; unfold bN; omega
theorem get_bN (s : ByteArray) : ∀ (n : Nat) (h : n < s.size), ((s[n]'h).toNat : Int) = ((bN s n : Nat) : Int) := fun n h => by rw [get_bt s n h]; have := bt_nonneg s n; unfold bN; omega
theorem get_bN' (s : ByteArray) : ∀ (n : Nat) (h : n < s.size), (s[n]'h).toNat = bN s n := fun n h => by have := get_bN s n h; omega
def lit1 (b : Nat) : List Rx := [⟨1, fun x => x == b⟩]
def txtL (s : ByteArray) (k : Nat) : List (List Rx) := (List.range k).map fun i => lit1 (bN s i)
theorem txtL_succ (s : ByteArray) (k : Nat) : txtL s (k + 1) = txtL s k ++ [lit1 (bN s k)] := by simp [txtL, List.range_succ]
theorem txtL_len (s : ByteArray) (k : Nat) : (txtL s k).length = k := by simp [txtL]
theorem tot_txtL (s : ByteArray) (k : Nat) : tot (txtL s k) = k := by
  induction k with
  | zero => rfl
  | succ k ih => rw [txtL_succ]; unfold tot at *; simp [ih, lit1]
def txtR (s : ByteArray) : List Rx := if s.size = 0 then [stp0 2] else behUp 3 (txtL s s.size) s.size
theorem set_zero (b : Nat) (h : b < 256) : (#[Value.int .u64 0, .int .u64 0, .int .u64 0, .int .u64 0] : Array Value).setIfInBounds (b / 64) (.int .u64 (IntKind.u64.wrap ((2 : Int) ^ (b % 64)))) =
    #[.int .u64 (wd (fun x => x == b) 0), .int .u64 (wd (fun x => x == b) 1), .int .u64 (wd (fun x => x == b) 2), .int .u64 (wd (fun x => x == b) 3)] := by
  have h1 := words_set emptyS (fun x => x == b) (b / 64) (by omega) (fun j hj => by
    rw [wd_one, if_neg (by omega), wd_emptyS])
  have h2 := wd_one b (b / 64)
  rw [if_pos rfl] at h2
  rw [wrap_pow _ (by omega : b % 64 < 64), ← h2]
  simp only [wd_emptyS] at h1
  exact h1
/-- Rows of the call's own, each in its own block. -/
def RowsOwn (B : Nat) (w : World) (os : List Rw) : Prop := ∀ o ∈ os, w.ownsRow B 44 5 (.slice o.a o.l o.c) o.rs.length (o.rs.flatMap rxC) ∧ o.l = o.rs.length ∧ o.rs.length ≤ 1000
theorem RowsOwn.below {B : Nat} {w w' : World} {os : List Rw} (h : RowsOwn B w os) (hb : Below w.heap.size w w') : RowsOwn B w' os := fun o ho => ⟨ownB (h o ho).1 hb, (h o ho).2⟩
theorem RowsOwn.grown {B : Nat} {w w' : World} {os : List Rw} {v : Value} {n k : Nat} {xs : List Value} {t : TypeId} (h : RowsOwn B w os) (hv : w.ownsRow B t k v n xs) (hne : t ≠ 44) (hg : w.grownBy w' v.ownBlock) : RowsOwn B w' os := fun o ho =>
  ⟨own_keep (h o ho).1 fun j cur hj hc => hg.block j (blk_lt hc) fun e => by
    obtain ⟨cur2, h2⟩ := own_obj hv e.symm
    exact obj_ne h2 hc hne rfl, (h o ho).2⟩
theorem RowsOwn.rrow {B : Nat} {w : World} {os : List Rw} {A : Option Addr} {c : Nat} (h : RowsOwn B w os) (hv : w.ownsRow B 28 1 (.slice A os.length c) os.length (os.flatMap slC)) (hl : os.length ≤ 1000) : RRow w A os.length os := by
  refine ⟨own_crow slC_len hv (by omega), fun o ho => ?_⟩
  obtain ⟨h1, h2, h3⟩ := h o ho
  rw [h2] at h1 ⊢
  exact own_crow rxC_len h1 (by omega)
theorem infoRow : (Try.prog.info? 28).map (fun i => (i.zero, i.size, i.bytes)) = some (some (.slice none 0 0), 1, 24) := by kernel_rfl
theorem app_row {w : World} {base n : Nat} {v : Value} {os : List Rw} (hown : w.ownsRow base 28 1 v n (os.flatMap slC)) (p : Rw) (hn : n ≤ 200000) (hbase : base ≤ w.heap.size) (H : Nat) (hH : w.heap.size = H)
    (ops : Array Oper) (rest : List Oper) (o : Oper) (a : Act) (Q : Exit → Act → World → Prop) (hg : o.guard = none) (s x : Operand) (ho : o.op = .call { callee := .builtin .append, args := #[s, x], argTypes := #[22, 22] })
    (hs : a.eval s = v) (hx : a.eval x = .slice (some ⟨H, 0, none⟩) 1 1)
    (h : ∀ g cap w', w'.ownsRow base 28 1 (.slice (some ⟨g, 0, none⟩) (n + 1) cap) (n + 1) ((os ++ [p]).flatMap slC) → (w.alloc (.cells #[.slice p.a p.l p.c] 28)).grownBy w' v.ownBlock → (v.ownBlock = some g ∨ g = H + 1) →
      wpList Try.prog ops Q rest (a.put o.dst (.slice (some ⟨g, 0, none⟩) (n + 1) cap)) w') : wpList Try.prog ops Q (o :: rest) a (w.alloc (.cells #[.slice p.a p.l p.c] 28)) :=
  app_el (P := Try.prog) (C := slC) (T := 22) (by decide) slC_len slC_one Try.underlying22 infoRow rfl hown p (by unfold maxLen; omega) (by omega) hbase H hH _ rfl ops rest o a Q hg s x ho hs hx h
set_option maxHeartbeats 4000000 in
theorem text_any (s : ByteArray) (w : World) (hs : s.size ≤ 300) : Calls Try.prog 20 #[.string s] w (Gives w (txtR s)) := by
  have hbt := get_bN s
  have hbt' := get_bN' s
  have HSET := Lib.hid fun w S => rset_any S w
  obtain ⟨g, hg⟩ : ∃ g, w.heap.size = g := ⟨_, rfl⟩
  have HG := Lib.hid hg
  have HB0 := Lib.hid (show Below g w w by rw [← hg]; exact Below.refl _ _)
  unfold Gives at *
  go_enter Try.func20, Try.ntmps20
  go_wp2
  clear hg
  go_loopw [3, 8] (fun v i wr => ∃ (j : Nat) (os : List Rw), j ≤ s.size ∧ i = .int .i64 (j : Int) ∧ wr.ownsRow g 28 1 v j (os.flatMap slC) ∧ os.map Rw.rs = txtL s j ∧ RowsOwn g wr os ∧ Below g w wr) (fun _ i _ => s.size - (intOf i).toNat)
  case atStart => exact ⟨0, [], by omega, rfl, own_new _ _ _ _, rfl, by intro o ho; simp at ho, HB0.out⟩
  case round =>
    obtain ⟨j, os, hj, rfl, hown, hos, hro, hb⟩ := hrel
    clear HB0
    have HO := Lib.hid hown
    have HOS := Lib.hid hos
    have HRO := Lib.hid hro
    have HB := Lib.hid hb
    have hgl : g ≤ wr.heap.size := by have := HG.out; have := hb.size; omega
    clear hown hos hro hb
    by_cases hlt : j < s.size
    · have hb256 := bN_lt s j
      have HN := Lib.hid (txtL_succ s j)
      have hset := set_zero (bN s j) hb256
      obtain ⟨b, hb⟩ : ∃ b, bN s j = b := ⟨_, rfl⟩
      have hbt1 : ((s[j]'hlt).toNat : Int) = (b : Int) := by rw [hbt j hlt, hb]
      have hbt2 : (s[j]'hlt).toNat = b := by rw [hbt' j hlt, hb]
      rw [hb] at HN hset hb256
      have q4 : b / 64 < 4 := by omega
      clear hbt hbt' hb
      have HST := Lib.hid fun w => rset_any (fun x => x == b) w
      unfold setV Gives at HST
      have HB1 := Lib.hid (HB.out.alloc hgl (.cells #[.int .u64 (wd (fun x => x == b) 0), .int .u64 (wd (fun x => x == b) 1), .int .u64 (wd (fun x => x == b) 2), .int .u64 (wd (fun x => x == b) 3)] 25))
      have HB1d : Hid (Below g w (wr.alloc (.cells #[.int .u64 (wd (fun x => x == b) 0), .int .u64 (wd (fun x => x == b) 1), .int .u64 (wd (fun x => x == b) 2), .int .u64 (wd (fun x => x == b) 3)] 25)).drew) := Lib.hid HB1.out.drew
      have HA1 : Hid (Below wr.heap.size wr (wr.alloc (.cells #[.int .u64 (wd (fun x => x == b) 0), .int .u64 (wd (fun x => x == b) 1), .int .u64 (wd (fun x => x == b) 2), .int .u64 (wd (fun x => x == b) 3)] 25)).drew) := Lib.hid ((Below.refl _ _).alloc (Nat.le_refl _) _).drew
      clear HB1
      go_wp2
      go_region
      go_wp2_with fail
      refine (HST.out _).mono ?_
      rintro e w2 ⟨v2, rfl, hown2, hb2⟩
      have HBW : Hid (Below g w w2) := Lib.hid (HB1d.out.trans (hb2.mono (by have := HB1d.out.size; have := HG.out; omega)))
      have HAW : Hid (Below wr.heap.size wr w2) := Lib.hid (HA1.out.trans (hb2.mono HA1.out.size))
      have hs2 := hb2.size
      obtain ⟨A2, c2, rfl, hlc2, hcc2⟩ := own_form hown2
      have HO2 := Lib.hid (own_mono hown2 (by have := HA1.out.size; omega : g ≤ _))
      clear hown2 hb2 HB1d HA1 HST
      have hg2 : g ≤ w2.heap.size := by have := HBW.out.size; have := HG.out; omega
      have HOW := Lib.hid (ownB HO.out HAW.out)
      have HRW := Lib.hid (HRO.out.below HAW.out)
      have HAP := Lib.hid (app_row HOW.out ⟨A2, 1, c2, lit1 b⟩ (by omega) hg2 w2.heap.size rfl)
      go_wp2_with (at_builtin; refine HAP.out _ _ _ _ _ rfl _ _ rfl rfl rfl ?_; intro gg cap w3 hown1 hgrow hat; have HW3 := Lib.hid hown1; have HGR := Lib.hid hgrow; clear hown1 hgrow hat)
      go_roundw
      case rel =>
        refine ⟨j + 1, os ++ [⟨A2, 1, c2, lit1 b⟩], by omega, by go_num, HW3.out, ?_, ?_, ?_⟩
        · rw [List.map_append, HOS.out, HN.out]; rfl
        · refine RowsOwn.grown (w := w2.alloc (.cells #[.slice A2 1 c2] 28)) (fun o ho => ?_) (HOW.out.alloc _) (by decide) HGR.out
          rcases List.mem_append.1 ho with h | h
          · obtain ⟨h1, h2⟩ := HRW.out o h
            exact ⟨h1.alloc _, h2⟩
          · obtain rfl := List.mem_singleton.1 h
            exact ⟨HO2.out.alloc _, rfl, by simp [lit1]⟩
        · exact below_grown (HBW.out.alloc hg2 _) (by simp; omega) HGR.out (fun j hj => (own_ge HO.out hj).1)
      case measure => simp [intOf]; omega
    · have hjn : j = s.size := by omega
      subst hjn
      obtain ⟨A, c, rfl, hlc, hcc⟩ := own_form HO.out
      have hol : os.length = s.size := by
        have := congrArg List.length HOS.out
        rwa [List.length_map, txtL_len] at this
      have HRR : Hid (RRow wr A s.size os) := Lib.hid (by
        have h1 := HO.out
        rw [← hol] at h1 ⊢
        exact HRO.out.rrow h1 (by omega))
      have HC := Lib.hid (cat_any wr A s.size c os HRR.out (by rw [HOS.out, tot_txtL]; omega))
      have HE : Hid (catR os s.size = txtR s) := Lib.hid (by unfold catR txtR; rw [HOS.out])
      unfold Gives at HC
      rw [HE.out] at HC
      clear hol hbt hbt'
      go_wp2_with fail
      refine HC.out.mono ?_
      rintro e w4 ⟨v4, rfl, hown4, hb4⟩
      have HO4 := Lib.hid (own_mono hown4 hgl)
      have HB4 := Lib.hid (HB.out.trans (hb4.mono hgl))
      clear hown4 hb4
      go_wp2
      go_ret
      exact ⟨_, rfl, by rw [HG.out]; exact HO4.out, by rw [HG.out]; exact HB4.out⟩
set_option maxHeartbeats 4000000 in
theorem reftext_any (s : ByteArray) (w : World) (hs : s.size ≤ 300) : Calls Try.prog 21 #[.string s] w (Gives w (txtR s)) := by
  have hbt := get_bN s
  have hbt' := get_bN' s
  obtain ⟨g, hg⟩ : ∃ g, w.heap.size = g := ⟨_, rfl⟩
  have HG := Lib.hid hg
  have HB0 := Lib.hid (show Below g w (w.alloc (.cells #[] 28)) by rw [← hg]; exact (Below.refl _ _).alloc (Nat.le_refl _) _)
  have HO0 := Lib.hid (World.ownsRow_made (base := g) (e := 28) (size := 1) w #[] 0 (Nat.le_of_eq HG.out.symm) (by decide) (by simp))
  rw [hg] at HO0
  unfold Gives at *
  go_enter Try.func21, Try.ntmps21
  go_wp2
  clear hg
  go_loopw [3, 4] (fun v i wr => ∃ (j : Nat) (os : List Rw), j ≤ s.size ∧ i = .int .i64 (j : Int) ∧ wr.ownsRow g 28 1 v j (os.flatMap slC) ∧ os.map Rw.rs = txtL s j ∧ RowsOwn g wr os ∧ Below g w wr) (fun _ i _ => s.size - (intOf i).toNat)
  case atStart => exact ⟨0, [], by omega, rfl, HO0.out, rfl, by intro o ho; simp at ho, HB0.out⟩
  case round =>
    obtain ⟨j, os, hj, rfl, hown, hos, hro, hb⟩ := hrel
    clear HB0 HO0
    have HO := Lib.hid hown
    have HOS := Lib.hid hos
    have HRO := Lib.hid hro
    have HB := Lib.hid hb
    have hgl : g ≤ wr.heap.size := by have := HG.out; have := hb.size; omega
    clear hown hos hro hb
    by_cases hlt : j < s.size
    · have hb256 := bN_lt s j
      have HN := Lib.hid (txtL_succ s j)
      obtain ⟨b, hb⟩ : ∃ b, bN s j = b := ⟨_, rfl⟩
      have hbt1 : ((s[j]'hlt).toNat : Int) = (b : Int) := by rw [hbt j hlt, hb]
      have hbt2 : (s[j]'hlt).toNat = b := by rw [hbt' j hlt, hb]
      rw [hb] at HN hb256
      clear hbt hbt' hb
      have HST := Lib.hid fun w => refset_any (fun x => x == b) w
      have HON := Lib.hid (one_any b wr hb256)
      unfold Gives at HST
      go_wp2_with fail
      refine HON.out.mono ?_
      rintro e w1 ⟨rfl, hb1⟩
      have HAW1 := Lib.hid hb1
      clear hb1
      go_wp2_with fail
      refine (HST.out _).mono ?_
      rintro e w2 ⟨v2, rfl, hown2, hb2⟩
      have HAW : Hid (Below wr.heap.size wr w2) := Lib.hid (HAW1.out.trans (hb2.mono HAW1.out.size))
      have HBW : Hid (Below g w w2) := Lib.hid (HB.out.trans (HAW.out.mono hgl))
      have hs2 := hb2.size
      obtain ⟨A2, c2, rfl, hlc2, hcc2⟩ := own_form hown2
      have HO2 := Lib.hid (own_mono hown2 (by have := HAW1.out.size; omega : g ≤ _))
      clear hown2 hb2 HAW1 HST
      have hg2 : g ≤ w2.heap.size := by have := HBW.out.size; have := HG.out; omega
      have HOW := Lib.hid (ownB HO.out HAW.out)
      have HRW := Lib.hid (HRO.out.below HAW.out)
      have HAP := Lib.hid (app_row HOW.out ⟨A2, 1, c2, lit1 b⟩ (by omega) hg2 w2.heap.size rfl)
      go_wp2_with (at_builtin; refine HAP.out _ _ _ _ _ rfl _ _ rfl rfl rfl ?_; intro gg cap w3 hown1 hgrow hat; have HW3 := Lib.hid hown1; have HGR := Lib.hid hgrow; clear hown1 hgrow hat)
      go_roundw
      case rel =>
        refine ⟨j + 1, os ++ [⟨A2, 1, c2, lit1 b⟩], by omega, by go_num, HW3.out, ?_, ?_, ?_⟩
        · rw [List.map_append, HOS.out, HN.out]; rfl
        · refine RowsOwn.grown (w := w2.alloc (.cells #[.slice A2 1 c2] 28)) (fun o ho => ?_) (HOW.out.alloc _) (by decide) HGR.out
          rcases List.mem_append.1 ho with h | h
          · obtain ⟨h1, h2⟩ := HRW.out o h
            exact ⟨h1.alloc _, h2⟩
          · obtain rfl := List.mem_singleton.1 h
            exact ⟨HO2.out.alloc _, rfl, by simp [lit1]⟩
        · exact below_grown (HBW.out.alloc hg2 _) (by simp; omega) HGR.out (fun j hj => (own_ge HO.out hj).1)
      case measure => simp [intOf]; omega
    · have hjn : j = s.size := by omega
      subst hjn
      obtain ⟨A, c, rfl, hlc, hcc⟩ := own_form HO.out
      have hol : os.length = s.size := by
        have := congrArg List.length HOS.out
        rwa [List.length_map, txtL_len] at this
      have HRR : Hid (RRow wr A s.size os) := Lib.hid (by
        have h1 := HO.out
        rw [← hol] at h1 ⊢
        exact HRO.out.rrow h1 (by omega))
      have HC := Lib.hid (refcat_any wr A s.size c os HRR.out (by rw [HOS.out, tot_txtL]; omega))
      have HE : Hid (catR os s.size = txtR s) := Lib.hid (by unfold catR txtR; rw [HOS.out])
      unfold Gives at HC
      rw [HE.out] at HC
      clear hol hbt hbt'
      go_wp2_with fail
      refine HC.out.mono ?_
      rintro e w4 ⟨v4, rfl, hown4, hb4⟩
      have HO4 := Lib.hid (own_mono hown4 hgl)
      have HB4 := Lib.hid (HB.out.trans (hb4.mono hgl))
      clear hown4 hb4
      go_wp2
      go_ret
      exact ⟨_, rfl, by rw [HG.out]; exact HO4.out, by rw [HG.out]; exact HB4.out⟩
end Go.Proofs.Ytjlmmpbichfaoaa
