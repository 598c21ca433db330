import Derived.Test.YtajfnkboeaflnaaQRef2
namespace Go.Proofs.Ytajfnkboeaflnaa
open Go.RowKit

theorem refO_c {w : World} {g room : Nat} {bs : List UInt8} (h : w.heap[g]? = some (refO room bs)) : w.cell? ⟨g, 0, none⟩ = some (.int .i64 room) ∧ w.cell? ⟨g, 1, none⟩ = some (.string (bstr bs)) := by
  constructor
  · rw [cell_of_row w g 0 _ _ _ h]; rfl
  · rw [cell_of_row w g 1 _ _ _ h]; rfl
theorem blk_lt {w : World} {g : Nat} {o : Obj} (h : w.heap[g]? = some o) : g < w.heap.size := by
  rcases Nat.lt_or_ge g w.heap.size with hl | hl
  · exact hl
  · rw [Array.getElem?_eq_none hl] at h; cases h
theorem rpad_neg (w : World) (room : Nat) (bs : List UInt8) (n c : Int) (h : n < 0) :
    Calls Try.prog 14 #[refV room bs, .int .i64 n, .int .u8 c] w fun e w' => e = .returned (.tuple #[refV room bs, .int .i64 2]) ∧ Below w.heap.size w w' := by
  unfold refV
  obtain ⟨s, hs⟩ : ∃ s, bstr bs = s := ⟨_, rfl⟩
  rw [hs]
  clear hs
  have j : decide (n < 0) = true := decide_eq_true h
  go_enter Try.func14, Try.ntmps14
  go_wp2
  refine bodyPost_ret (v := .tuple #[.agg #[.int .i64 room, .string s], .int .i64 2]) (by simp [results, Try.results14, go_sem]) rfl ⟨rfl, ?_⟩
  exact ((Below.refl _ _).alloc (Nat.le_refl _) _).alloc (by simp) _
theorem rpad_no (w : World) (room : Nat) (bs : List UInt8) (n c : Int) (h0 : 0 ≤ n) (hr : room ≤ 1073741824) (hb : bs.length ≤ room) (hno : (room : Int) - (bs.length : Nat) < n) :
    Calls Try.prog 14 #[refV room bs, .int .i64 n, .int .u8 c] w fun e w' => e = .returned (.tuple #[refV room bs, .int .i64 6]) ∧ Below w.heap.size w w' := by
  have hsz := bstr_size bs
  unfold refV
  obtain ⟨s, hs⟩ : ∃ s, bstr bs = s := ⟨_, rfl⟩
  rw [hs] at hsz ⊢
  rw [← hsz] at hno hb
  clear hs hsz
  have j : decide (n < 0) = false := decide_eq_false (by omega)
  have j1 : decide ((room : Int) - (s.size : Int) < n) = true := decide_eq_true hno
  go_enter Try.func14, Try.ntmps14
  go_wp2
  refine bodyPost_ret (v := .tuple #[.agg #[.int .i64 room, .string s], .int .i64 6]) (by simp [results, Try.results14, go_sem]) rfl ⟨rfl, ?_⟩
  exact ((Below.refl _ _).alloc (Nat.le_refl _) _).alloc (by simp) _
theorem conv_one (w : World) (c : UInt8) : (convert 50 9 (.slice (some ⟨w.heap.size, 0, none⟩) 1 1)).run Try.prog (w.alloc (.cells #[.int .u8 c.toNat] 5)) = .ok (.string (bstr [c])) (w.alloc (.cells #[.int .u8 c.toNat] 5)) :=
  run_convert_bytes_back (P := Try.prog) _ 50 9 5 ⟨w.heap.size, 0, none⟩ 1 [c] Try.underlying50 Try.underlying5 Try.underlying9 (fun j hj => by
    have : j = 0 := by simpa using hj
    subst this
    exact cell_one_new w _ _ 0 _ rfl)
set_option maxHeartbeats 400000 in
theorem rpad_yes (w : World) (room : Nat) (bs : List UInt8) (n : Nat) (c : UInt8) (hr : room ≤ 1073741824) (hyes : bs.length + n ≤ room) :
    Calls Try.prog 14 #[refV room bs, .int .i64 n, .int .u8 c.toNat] w fun e w' => e = .returned (.tuple #[refV room (bs ++ List.replicate n c), .int .i64 0]) ∧ Below w.heap.size w w' := by
  have hsz := bstr_size bs
  have hg0 : ((w.alloc (refO room bs)).alloc (refO 0 [])).heap[w.heap.size]? = some (refO room bs) := by rw [Below.heap_alloc _ _ _ (by simp)]; exact heap_alloc_new w _
  have hg1 : ((w.alloc (refO room bs)).alloc (refO 0 [])).heap[w.heap.size + 1]? = some (refO 0 []) := by
    have := heap_alloc_new (w.alloc (refO room bs)) (refO 0 [])
    simpa using this
  have hb2 : Below w.heap.size w ((w.alloc (refO room bs)).alloc (refO 0 [])) := ((Below.refl _ _).alloc (Nat.le_refl _) _).alloc (by simp) _
  unfold refV
  obtain ⟨W, hW⟩ : ∃ W, W = (w.alloc (refO room bs)).alloc (refO 0 []) := ⟨_, rfl⟩
  rw [← hW] at hg0 hg1 hb2
  have HG0 := Lib.hid hg0
  have HG1 := Lib.hid hg1
  have HB2 := Lib.hid hb2
  have hsl : (bstr bs).size ≤ 1073741824 := by rw [hsz]; omega
  have hnn : n ≤ 1073741824 := by omega
  have j : decide ((n : Int) < 0) = false := decide_eq_false (by omega)
  have j1 : decide ((room : Int) - ((bstr bs).size : Int) < n) = false := decide_eq_false (by rw [hsz]; omega)
  have HY := Lib.hid hyes
  unfold refO at hW
  obtain ⟨s, hs⟩ : ∃ s, bstr bs = s := ⟨_, rfl⟩
  have HS := Lib.hid hs
  rw [hs] at hW hsl j1 ⊢
  clear hs hyes hsz hg0 hg1 hb2
  have hcb : c.toNat < 256 := c.toNat_lt
  have hcv := fun w' => conv_one w' c
  obtain ⟨d, hd⟩ : ∃ d, c.toNat = d := ⟨_, rfl⟩
  rw [hd] at hcb hcv ⊢
  clear hd
  go_enter Try.func14, Try.ntmps14
  go_wp2
  have e0 : (bstr ([] : List UInt8)) = ⟨#[]⟩ := rfl
  rw [show (w.alloc (.cells #[.int .i64 room, .string s] 33)).alloc (.cells #[.int .i64 0, .string ⟨#[]⟩] 33) = W from hW.symm]
  clear hW e0
  go_loopw [8] (fun i wr => ∃ k : Nat, k ≤ n ∧ i = .int .i64 k ∧ wr.heap[w.heap.size]? = some (refO room (bs ++ List.replicate k c)) ∧ wr.heap[w.heap.size + 1]? = some (refO 0 []) ∧ Below w.heap.size w wr) (fun i _ => n - (intOf i).toNat)
  case atStart => exact ⟨0, by omega, rfl, by simpa using HG0.out, HG1.out, HB2.out⟩
  case round =>
    obtain ⟨k, hk, rfl, h0, h1, hb⟩ := hrel
    have H0 := Lib.hid h0
    have H1 := Lib.hid h1
    have HB := Lib.hid hb
    have hl0 := blk_lt h0
    have hl1 := blk_lt h1
    by_cases hlt : k < n
    · obtain ⟨c0, c1⟩ := refO_c h0
      have cf := frozen_of_row wr w.heap.size 1 _ _ h0
      have HN : Hid (bstr (bs ++ List.replicate k c) ++ bstr [c] = bstr (bs ++ List.replicate (k + 1) c)) := by show _ = _; rw [bstr_app, bstr_data, List.append_assoc, List.replicate_succ']
      have hsz : (bstr (bs ++ List.replicate k c)).size ≤ 1073741824 := by have := HY.out; rw [bstr_size]; simp; omega
      have hs1 : (bstr [c]).size = 1 := rfl
      obtain ⟨t1, ht1⟩ : ∃ t1, bstr [c] = t1 := ⟨_, rfl⟩
      rw [ht1] at HN hs1 hcv
      obtain ⟨t, ht⟩ : ∃ t, bstr (bs ++ List.replicate k c) = t := ⟨_, rfl⟩
      have HT := Lib.hid ht
      rw [ht] at HN hsz c1
      have hcv1 := hcv wr
      have hs2 : t1.size ≤ 1 := by omega
      clear ht ht1 h0 h1 hb hcv hs1
      go_wp2
      go_roundw
      case rel =>
        refine ⟨k + 1, by omega, by go_num, ?_, ?_, (HB.out.setCell (Nat.le_refl _) _).alloc (by have := HB.out.size; simp; omega) _⟩
        · rw [Below.heap_alloc _ _ _ (by simp; omega), heap_setCell_same _ _ 1 _ _ _ H0.out, HN.out]; rfl
        · rw [Below.heap_alloc _ _ _ (by simp; omega), heap_setCell_other _ _ _ _ (by show w.heap.size + 1 ≠ w.heap.size; omega)]; exact H1.out
      case measure => simp [intOf]; omega
    · have Hk : Hid (k = n) := by show k = n; omega
      rw [Hk.out] at h0 H0
      obtain ⟨c0, c1⟩ := refO_c h0
      have f0 := frozen_of_row wr (w.heap.size + 1) 0 _ _ h1
      have f1 := frozen_of_row wr (w.heap.size + 1) 1 _ _ h1
      obtain ⟨d0, d1⟩ := refO_c h1
      obtain ⟨t, ht⟩ : ∃ t, bstr (bs ++ List.replicate n c) = t := ⟨_, rfl⟩
      rw [ht] at c1
      have HT := Lib.hid ht
      clear h0 h1 hb hcv ht
      go_wp2
      have e1 := heap_setCell_same wr (w.heap.size + 1) 0 _ _ (.int .i64 room) H1.out
      have e2 := heap_setCell_same _ (w.heap.size + 1) 1 _ _ (.string t) e1
      have r0 := cell_of_row _ (w.heap.size + 1) 0 _ _ _ e2
      have r1 := cell_of_row _ (w.heap.size + 1) 1 _ _ _ e2
      simp at r0 r1
      refine bodyPost_ret (v := .tuple #[.agg #[.int .i64 room, .string t], .int .i64 0]) (by simp [results, Try.results14, go_sem, r0, r1]) rfl ⟨by rw [HT.out], ?_⟩
      exact (HB.out.setCell (by simp) _).setCell (by simp) _
end Go.Proofs.Ytajfnkboeaflnaa
