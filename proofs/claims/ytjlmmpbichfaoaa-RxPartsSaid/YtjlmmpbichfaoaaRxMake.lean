/- rx: one step behind; parts one behind the other. -/
import Derived.Test.YtjlmmpbichfaoaaRxOps
import Derived.Laws.ResultCell
namespace Go.Proofs.Ytjlmmpbichfaoaa
open Go.RowKit
set_option linter.unusedVariables false

def oneF (rs : List Rx) (k : Int) : List Rx := rs ++ [stp0 k]
theorem app_rx {w : World} {base n : Nat} {v : Value} {os : List Rx} (hown : w.ownsRow base 44 5 v n (os.flatMap rxC)) (k : Int) (hn : n ≤ 200000) (hbase : base ≤ w.heap.size) (H : Nat) (hH : w.heap.size = H)
    (ops : Array Oper) (rest : List Oper) (o : Oper) (a : Act) (Q : Exit → Act → World → Prop) (hg : o.guard = none) (s x : Operand) (ho : o.op = .call { callee := .builtin .append, args := #[s, x], argTypes := #[28, 28] })
    (hs : a.eval s = v) (hx : a.eval x = .slice (some ⟨H, 0, none⟩) 1 1)
    (h : ∀ g cap w', w'.ownsRow base 44 5 (.slice (some ⟨g, 0, none⟩) (n + 1) cap) (n + 1) ((os ++ [stp0 k]).flatMap rxC) → (w.alloc (.cells #[.int .i64 k, .int .u64 0, .int .u64 0, .int .u64 0, .int .u64 0] 44)).grownBy w' v.ownBlock → (v.ownBlock = some g ∨ g = H + 1) →
      wpList Try.prog ops Q rest (a.put o.dst (.slice (some ⟨g, 0, none⟩) (n + 1) cap)) w') : wpList Try.prog ops Q (o :: rest) a (w.alloc (.cells #[.int .i64 k, .int .u64 0, .int .u64 0, .int .u64 0, .int .u64 0] 44)) :=
  app_el (P := Try.prog) (C := rxC) (T := 28) (by decide) rxC_len rxC_one Try.underlying28 infoRx rfl hown (stp0 k) (by unfold maxLen; omega) (by omega) hbase H hH _ (by rw [stp0_C]) ops rest o a Q hg s x ho hs hx h
theorem rone_any (w : World) (a : Option Addr) (n c : Nat) (rs : List Rx) (k : Int) (h : CRow rxC 5 w a n rs) (hn : n ≤ 100000) :
    Calls Try.prog 28 #[.slice a n c, .int .i64 k] w (Gives w (oneF rs k)) := by
  have HC := Lib.hid (clone_any w a n c rs h hn)
  have HN := Lib.hid h.1
  clear h
  unfold Gives at HC ⊢
  go_enter Try.func28, Try.ntmps28
  go_wp2_with fail
  refine HC.out.mono ?_
  rintro e w1 ⟨v, rfl, hown, hb⟩
  have HO := Lib.hid hown
  have HB := Lib.hid hb
  have HAP := Lib.hid (app_rx hown k (by rw [HN.out]; omega) hb.size w1.heap.size rfl)
  have hbs := hb.size
  clear hown hb HC
  go_wp2_with (at_builtin; refine HAP.out _ _ _ _ _ rfl _ _ rfl rfl rfl ?_; intro gg cap w2 hown1 hgrow hat; have HW := Lib.hid hown1; have HBW := Lib.hid (below_grown (HB.out.alloc hbs (.cells #[.int .i64 k, .int .u64 0, .int .u64 0, .int .u64 0, .int .u64 0] 44)) (by simp; omega) hgrow (fun j hj => (own_ge HO.out hj).1)); clear hown1 hgrow hat)
  go_ret
  exact ⟨_, rfl, by unfold oneF; rw [List.length_append]; exact HW.out, HBW.out⟩
theorem star_any (w : World) (a : Option Addr) (n c : Nat) (rs : List Rx) (h : CRow rxC 5 w a n rs) (hn : n ≤ 100000) : Calls Try.prog 12 #[.slice a n c] w (Gives w (oneF rs 5)) := by
  have HC := Lib.hid (rone_any w a n c rs 5 h hn)
  clear h
  unfold Gives at HC ⊢
  go_enter Try.func12, Try.ntmps12
  go_wp2_with fail
  refine HC.out.mono ?_
  rintro e w1 ⟨v, rfl, hown, hb⟩
  have HO := Lib.hid hown
  have HB := Lib.hid hb
  clear hown hb HC
  go_wp2
  go_ret
  exact ⟨_, rfl, HO.out, HB.out⟩
theorem plus_any (w : World) (a : Option Addr) (n c : Nat) (rs : List Rx) (h : CRow rxC 5 w a n rs) (hn : n ≤ 100000) : Calls Try.prog 14 #[.slice a n c] w (Gives w (oneF rs 6)) := by
  have HC := Lib.hid (rone_any w a n c rs 6 h hn)
  clear h
  unfold Gives at HC ⊢
  go_enter Try.func14, Try.ntmps14
  go_wp2_with fail
  refine HC.out.mono ?_
  rintro e w1 ⟨v, rfl, hown, hb⟩
  have HO := Lib.hid hown
  have HB := Lib.hid hb
  clear hown hb HC
  go_wp2
  go_ret
  exact ⟨_, rfl, HO.out, HB.out⟩
theorem opt_any (w : World) (a : Option Addr) (n c : Nat) (rs : List Rx) (h : CRow rxC 5 w a n rs) (hn : n ≤ 100000) : Calls Try.prog 15 #[.slice a n c] w (Gives w (oneF rs 7)) := by
  have HC := Lib.hid (rone_any w a n c rs 7 h hn)
  clear h
  unfold Gives at HC ⊢
  go_enter Try.func15, Try.ntmps15
  go_wp2_with fail
  refine HC.out.mono ?_
  rintro e w1 ⟨v, rfl, hown, hb⟩
  have HO := Lib.hid hown
  have HB := Lib.hid hb
  clear hown hb HC
  go_wp2
  go_ret
  exact ⟨_, rfl, HO.out, HB.out⟩
theorem take_snoc {α : Type} {l : List α} {k : Nat} {x : α} (h : l[k]? = some x) : l.take (k + 1) = l.take k ++ [x] := by rw [List.take_add_one, h]; rfl
set_option maxHeartbeats 1000000 in
theorem refone_any (w : World) (a : Option Addr) (n c : Nat) (rs : List Rx) (k : Int) (h : CRow rxC 5 w a n rs) (hn : n ≤ 100000) :
    Calls Try.prog 13 #[.slice a n c, .int .i64 k] w (Gives w (oneF rs k)) := by
  have HR := Lib.hid h
  have HL := Lib.hid h.1
  clear h
  unfold Gives
  obtain ⟨g, hg⟩ : ∃ g, w.heap.size = g := ⟨_, rfl⟩
  have HG := Lib.hid hg
  have HB0 := Lib.hid (show Below g w (w.alloc (.cells #[] 44)) by rw [← hg]; exact (Below.refl _ _).alloc (Nat.le_refl _) _)
  have HO0 := Lib.hid (World.ownsRow_made (base := g) (e := 44) (size := 5) w #[] 0 (Nat.le_of_eq HG.out.symm) (by decide) (by simp))
  rw [hg] at HO0
  go_enter Try.func13, Try.ntmps13
  go_wp2
  clear hg
  go_loopw [5, 6] (fun v i wr => ∃ j : Nat, j ≤ n ∧ i = .int .i64 (j : Int) ∧ wr.ownsRow g 44 5 v j ((rs.take j).flatMap rxC) ∧ Below g w wr) (fun _ i _ => n - (intOf i).toNat)
  case atStart => exact ⟨0, by omega, rfl, HO0.out, HB0.out⟩
  case round =>
    obtain ⟨j, hj, rfl, hown, hb⟩ := hrel
    clear HO0 HB0
    have HO := Lib.hid hown
    have HB := Lib.hid hb
    have hgl : g ≤ wr.heap.size := by have := HG.out; have := hb.size; omega
    clear hown hb
    by_cases hlt : j < n
    · obtain ⟨b1, o1, r, rfl, hbl, hr, hc⟩ := HR.out.at_ hlt
      have hbg : b1 < g := by have := HG.out; omega
      have kp : ∀ i u, w.cell? ⟨b1, i, none⟩ = some u → wr.cell? ⟨b1, i, none⟩ = some u := fun i u h => (HB.out.cell (p := ⟨b1, i, none⟩) hbg).trans h
      have c0 : wr.cell? ⟨b1, o1 + j * 5, none⟩ = some (.int .i64 r.k) := kp _ _ (hc 0 _ rfl)
      have c1 : wr.cell? ⟨b1, o1 + j * 5 + 1, none⟩ = some (.int .u64 (wd r.s 0)) := kp _ _ (hc 1 _ rfl)
      have c2 : wr.cell? ⟨b1, o1 + j * 5 + 2, none⟩ = some (.int .u64 (wd r.s 1)) := kp _ _ (hc 2 _ rfl)
      have c3 : wr.cell? ⟨b1, o1 + j * 5 + 3, none⟩ = some (.int .u64 (wd r.s 2)) := kp _ _ (hc 3 _ rfl)
      have c4 : wr.cell? ⟨b1, o1 + j * 5 + 4, none⟩ = some (.int .u64 (wd r.s 3)) := kp _ _ (hc 4 _ rfl)
      have HT := Lib.hid (take_snoc hr)
      have HAP := Lib.hid (app_el (P := Try.prog) (C := rxC) (T := 28) (by decide) rxC_len rxC_one Try.underlying28 infoRx rfl HO.out r (by unfold maxLen; omega) (by omega) hgl wr.heap.size rfl #[.int .i64 r.k, .int .u64 (wd r.s 0), .int .u64 (wd r.s 1), .int .u64 (wd r.s 2), .int .u64 (wd r.s 3)] rfl)
      have h0 : (0 : Int) ≤ (j : Int) := by omega
      have h1 : (j : Int) < (n : Int) := by omega
      clear kp hc hr
      go_wp2_with (at_builtin; refine HAP.out _ _ _ _ _ rfl _ _ rfl rfl rfl ?_; intro gg cap w2 hown1 hgrow hat; have HW := Lib.hid hown1; have HBW := Lib.hid (below_grown (HB.out.alloc hgl (.cells #[.int .i64 r.k, .int .u64 (wd r.s 0), .int .u64 (wd r.s 1), .int .u64 (wd r.s 2), .int .u64 (wd r.s 3)] 44)) (by simp; omega) hgrow (fun j hj => (own_ge HO.out hj).1)); clear hown1 hgrow hat)
      go_roundw
      case rel => exact ⟨j + 1, by omega, by go_num, by rw [HT.out]; exact HW.out, HBW.out⟩
      case measure => simp [intOf]; omega
    · have hjn : j = n := by omega
      subst hjn
      have HK : Hid (rs.take j = rs) := by show _ = _; exact List.take_of_length_le (by rw [HL.out]; exact Nat.le_refl _)
      rw [HK.out] at HO
      have HAP := Lib.hid (app_rx HO.out k (by omega) hgl wr.heap.size rfl)
      go_wp2_with (at_builtin; refine HAP.out _ _ _ _ _ rfl _ _ rfl rfl rfl ?_; intro gg cap w2 hown1 hgrow hat; have HW := Lib.hid hown1; have HBW := Lib.hid (below_grown (HB.out.alloc hgl (.cells #[.int .i64 k, .int .u64 0, .int .u64 0, .int .u64 0, .int .u64 0] 44)) (by simp; omega) hgrow (fun j hj => (own_ge HO.out hj).1)); clear hown1 hgrow hat)
      go_ret
      exact ⟨_, rfl, by unfold oneF; rw [List.length_append, HL.out, HG.out]; exact HW.out, by rw [HG.out]; exact HBW.out⟩
end Go.Proofs.Ytjlmmpbichfaoaa
