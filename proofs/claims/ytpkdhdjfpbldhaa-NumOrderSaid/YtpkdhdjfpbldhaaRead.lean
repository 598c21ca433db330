import Derived.Test.YtpkdhdjfpbldhaaShow
import Derived.PlainAid
namespace Go.Proofs.Ytpkdhdjfpbldhaa
open Go.RowKit Go.PlainAid

/-- The number that the first k bytes stand for, as digits. -/
def valAt (s : ByteArray) : Nat → Int
  | 0 => 0
  | k + 1 => valAt s k * 10 + (bt s k - 48)
def isDg (s : ByteArray) (k : Nat) : Prop := 48 ≤ bt s k ∧ bt s k ≤ 57
def Bad (s : ByteArray) : Prop := s.size = 0 ∨ (bt s 0 = 48 ∧ 1 < s.size) ∨ ∃ j, j < s.size ∧ ¬ isDg s j
open Classical in
noncomputable def readN (s : ByteArray) (most : Int) : Int × Int :=
  if Bad s then (0, 3) else if most < valAt s s.size then (0, 2) else (valAt s s.size, 0)
noncomputable def readR (s : ByteArray) (most : Int) : Value := .tuple #[.int .i64 (readN s most).1, .int .i64 (readN s most).2]
theorem readR_bad {s : ByteArray} {most : Int} (h : Bad s) : Ending.returned (.tuple #[.int .i64 0, .int .i64 3]) = .returned (readR s most) := by simp [readR, readN, h]
theorem readR_over {s : ByteArray} {most : Int} (h : ¬ Bad s) (h2 : most < valAt s s.size) : Ending.returned (.tuple #[.int .i64 0, .int .i64 2]) = .returned (readR s most) := by simp [readR, readN, h, h2]
theorem readR_ok {s : ByteArray} {most v : Int} (h : ¬ Bad s) (h2 : valAt s s.size ≤ most) (hv : v = valAt s s.size) : Ending.returned (.tuple #[.int .i64 v, .int .i64 0]) = .returned (readR s most) := by
  subst hv
  have : ¬ most < valAt s s.size := by omega
  simp [readR, readN, h, this]
theorem valAt_mono (s : ByteArray) (m : Nat) (hm : ∀ j, j < m → isDg s j) : ∀ k d, k + d ≤ m → 0 ≤ valAt s k ∧ valAt s k ≤ valAt s (k + d) := by
  have h0 : ∀ k, k ≤ m → 0 ≤ valAt s k := by
    intro k
    induction k with
    | zero => intro _; simp [valAt]
    | succ k ih => intro hk; have := ih (by omega); have := hm k (by omega); unfold isDg at this; simp only [valAt]; omega
  intro k d
  induction d with
  | zero => intro h; exact ⟨h0 k (by omega), by simp⟩
  | succ d ih =>
    intro h
    have a := ih (by omega)
    have b := hm (k + d) (by omega)
    have c := h0 (k + d) (by omega)
    refine ⟨a.1, ?_⟩
    unfold isDg at b
    rw [← Nat.add_assoc]
    simp only [valAt]; omega
theorem len_toList (s : ByteArray) : s.toList.length = s.size := by rw [ByteArray.toList_eq]; exact Array.length_toList
theorem toList_nil (s : ByteArray) : s.toList = [] ↔ s.size = 0 := by rw [← len_toList]; exact List.length_eq_zero_iff.symm
theorem toList_isEmpty (s : ByteArray) (h : s.size ≠ 0) : s.toList.isEmpty = false := by
  cases hh : s.toList with
  | nil => exact absurd ((toList_nil s).1 hh) h
  | cons _ _ => rfl
theorem toList_at (s : ByteArray) (k : Nat) (h : k < s.size) : (s.toList[k]?.map fun c => (c.toNat : Int)) = some (bt s k) := by
  rw [← get_bt s k h, ByteArray.toList_eq]
  have : s.data.toList[k]? = some (s.data[k]'h) := by rw [List.getElem?_eq_getElem (by simpa using h)]; simp
  rw [this]; rfl
theorem toList_one (s : ByteArray) (h0 : bt s 0 = 48) (h : s.size = 1) : s.toList = [48] := by
  have hl := len_toList s
  have ha := toList_at s 0 (by omega)
  match hm : s.toList, hl with
  | [x], _ =>
    rw [hm, h0] at ha
    have hx : (x.toNat : Int) = 48 := by simpa using ha
    have : x = 48 := UInt8.toNat_inj.1 (by show x.toNat = 48; omega)
    rw [this]
  | [], hl => simp at hl; omega
  | _ :: _ :: _, hl => simp at hl; omega
theorem toList_ne (s : ByteArray) (h : s.size ≠ 1) : (s.toList == [48]) = false := by
  rw [beq_eq_false_iff_ne]
  intro e
  have := congrArg List.length e
  rw [len_toList] at this
  exact h this

set_option maxHeartbeats 400000 in
theorem read_any (s : ByteArray) (most : Int) (w : World) (hs : s.size ≤ maxLen) (h1 : -9223372036854775808 ≤ most) (h2 : most ≤ 9223372036854775807) :
    Calls Try.prog 12 #[.string s, .int .i64 most] w fun e w' => e = .returned (readR s most) ∧ w = w' := by
  unfold maxLen at hs
  have hbt := get_bt s
  by_cases h0 : s.size = 0
  · have h0' : s.toList = [] := (toList_nil s).2 h0
    have Hb : Bad s := .inl h0
    clear h0
    go_enter Try.func12, Try.ntmps12
    go_wp2
    go_ret2
    exact ⟨readR_bad Hb, rfl⟩
  have hpos : 0 < s.size := by omega
  have he := toList_isEmpty s h0
  have he2 : s.toList ≠ [] := fun h => h0 ((toList_nil s).1 h)
  by_cases hz : bt s 0 = 48 ∧ 1 < s.size
  · have Hb : Bad s := .inr (.inl hz)
    have hne := toList_ne s (by omega)
    have hz' : (bt s 0 == 48) = true := by simp [hz.1]
    clear hz h0
    go_enter Try.func12, Try.ntmps12
    go_wp2
    go_ret2
    exact ⟨readR_bad Hb, rfl⟩
  have hz' : ((bt s 0 == 48) = false ∧ bt s 0 ≠ 48) ∨ ((bt s 0 == 48) = true ∧ s.toList = [48]) := by
    by_cases h : bt s 0 = 48
    · exact .inr ⟨by simp [h], toList_one s h (by omega)⟩
    · exact .inl ⟨by simp [h], h⟩
  have Hz := Lib.hid hz
  clear hz h0
  rcases hz' with ⟨hz', hz2⟩ | ⟨hz', hz2⟩
  all_goals
    go_enter Try.func12, Try.ntmps12
    go_wp2
    go_loop [6, 7, 24] (fun n o i => ∃ (k : Nat) (v : Int) (b : Bool), k ≤ s.size ∧ i = .int .i64 k ∧ n = .int .i64 v ∧ o = .bool b ∧ 0 ≤ v ∧ (∀ j, j < k → isDg s j) ∧
      (b = false → v = valAt s k ∧ (v ≤ most ∨ k = 0)) ∧ (b = true → most < valAt s k)) (fun _ _ i => s.size - (intOf i).toNat)
    case atStart => exact ⟨0, 0, false, by omega, rfl, rfl, rfl, by omega, by omega, by simp [valAt], by simp⟩
    case round =>
      obtain ⟨k, v, b, hk, rfl, rfl, rfl, hv, hdg, hf, ht⟩ := hrel
      have Hdg := Lib.hid hdg
      have Hf := Lib.hid hf
      have Ht := Lib.hid ht
      clear hdg hf ht
      by_cases hlt : k < s.size
      · have hb0 := bt_nonneg s k
        have hb1 := bt_le s k
        by_cases hd : bt s k < 48 ∨ 57 < bt s k
        · have Hb : Bad s := .inr (.inr ⟨k, hlt, by unfold isDg; omega⟩)
          rcases hd with hd | hd
          all_goals
            go_wp2
            go_ret2
            exact ⟨readR_bad Hb, rfl⟩
        · have hd0 : ¬ bt s k < 48 := by omega
          have hd1 : ¬ 57 < bt s k := by omega
          have hdk : isDg s k := by unfold isDg; omega
          clear hd
          have hnext : valAt s (k + 1) = valAt s k * 10 + (bt s k - 48) := rfl
          have Hnext := Lib.hid hnext
          clear hnext
          have Hdg' : Hid (∀ j, j < k + 1 → isDg s j) := by
            intro j hj
            rcases Nat.lt_or_ge j k with h | h
            · exact Hdg.out j h
            · have : j = k := by omega
              subst this; exact hdk
          cases b with
          | false =>
            have hvv := (Hf.out rfl).1
            have hvm := (Hf.out rfl).2
            have Hvv := Lib.hid hvv
            clear hvv
            by_cases c1 : most < bt s k - 48
            · go_wp2
              go_round
              case rel => exact ⟨k + 1, v, true, by omega, by go_num, rfl, rfl, hv, Hdg'.out, by simp, fun _ => by rw [Hnext.out, ← Hvv.out]; omega⟩
              case measure => simp [intOf]; omega
            · by_cases c2 : (most - (bt s k - 48)) / 10 < v
              · go_wp2
                go_round
                case rel => exact ⟨k + 1, v, true, by omega, by go_num, rfl, rfl, hv, Hdg'.out, by simp, fun _ => by rw [Hnext.out, ← Hvv.out]; omega⟩
                case measure => simp [intOf]; omega
              · go_wp2
                go_round
                case rel => exact ⟨k + 1, v * 10 + (bt s k - 48), false, by omega, by go_num, by go_num, rfl, by omega, Hdg'.out, fun _ => by rw [Hnext.out, ← Hvv.out]; omega, by simp⟩
                case measure => simp [intOf]; omega
          | true =>
            have hov := Ht.out rfl
            have hpos := (valAt_mono s k Hdg.out k 0 (by omega)).1
            go_wp2
            go_round
            case rel => exact ⟨k + 1, v, true, by omega, by go_num, rfl, rfl, hv, Hdg'.out, by simp, fun _ => by rw [Hnext.out]; omega⟩
            case measure => simp [intOf]; omega
      · have Hk : Hid (k = s.size) := by show k = s.size; omega
        have HB : Hid (¬ Bad s) := by
          rintro (h | h | ⟨j, hj, hn⟩)
          · omega
          · exact Hz.out h
          · exact hn (Hdg.out j (by omega))
        cases b with
        | false =>
          go_wp2
          go_ret2
          have hvv := Hf.out (by simp)
          rw [Hk.out] at hvv
          exact ⟨readR_ok HB.out (by omega) hvv.1, rfl⟩
        | true =>
          go_wp2
          go_ret2
          have hvv := Ht.out (by simp)
          rw [Hk.out] at hvv
          exact ⟨readR_over HB.out hvv, rfl⟩

set_option maxHeartbeats 400000 in
theorem refread_tail (s : ByteArray) (most : Int) (w : World) (hs : s.size ≤ 9223372036854775807) (h1 : -9223372036854775808 ≤ most) (h2 : most ≤ 9223372036854775807) (hpos : 0 < s.size) (h0' : ((s.size : Int) == 0) = false)
    (hq : ((1 : Int) < (s.size : Int) ∧ (bt s 0 == 48) = false) ∨ ¬ (1 : Int) < (s.size : Int)) (hz : ¬ (bt s 0 = 48 ∧ 1 < s.size)) :
    Calls Try.prog 13 #[.string s, .int .i64 most] w fun e w' => e = .returned (readR s most) ∧ w = w' := by
  have hbt := get_bt s
  have Hz := Lib.hid hz
  clear hz
  rcases hq with ⟨hq, hq2⟩ | hq
  all_goals
    go_enter Try.func13, Try.ntmps13
    go_wp2
    go_loop [6] (fun i => ∃ (k : Nat), k ≤ s.size ∧ i = .int .i64 k ∧ (∀ j, j < k → isDg s j)) (fun i => s.size - (intOf i).toNat)
    case atStart => exact ⟨0, by omega, rfl, by omega⟩
    case round =>
      obtain ⟨k, hk, rfl, hdg⟩ := hrel
      have Hdg := Lib.hid hdg
      clear hdg
      by_cases hlt : k < s.size
      · have hb0 := bt_nonneg s k
        have hb1 := bt_le s k
        by_cases hd : bt s k < 48 ∨ 57 < bt s k
        · have Hb : Bad s := .inr (.inr ⟨k, hlt, by unfold isDg; omega⟩)
          rcases hd with hd | hd
          all_goals
            go_wp2
            go_ret2
            exact ⟨readR_bad Hb, rfl⟩
        · have hd0 : ¬ bt s k < 48 := by omega
          have hd1 : ¬ 57 < bt s k := by omega
          have hdk : isDg s k := by unfold isDg; omega
          clear hd
          have Hdg' : Hid (∀ j, j < k + 1 → isDg s j) := by
            intro j hj
            rcases Nat.lt_or_ge j k with h | h
            · exact Hdg.out j h
            · have : j = k := by omega
              subst this; exact hdk
          go_wp2
          go_round
          case rel => exact ⟨k + 1, by omega, by go_num, Hdg'.out⟩
          case measure => simp [intOf]; omega
      · have Hk : Hid (k = s.size) := by show k = s.size; omega
        have HB : Hid (¬ Bad s) := by
          rintro (h | h | ⟨j, hj, hn⟩)
          · omega
          · exact Hz.out h
          · exact hn (Hdg.out j (by omega))
        go_wp2
        go_loop [7, 8] (fun n i => ∃ (m : Nat), m ≤ s.size ∧ i = .int .i64 m ∧ n = .int .i64 (valAt s m) ∧ (valAt s m ≤ most ∨ m = 0)) (fun _ i => s.size - (intOf i).toNat)
        case atStart => exact ⟨0, by omega, rfl, rfl, by omega⟩
        case round =>
          obtain ⟨m, hm, rfl, rfl, hle⟩ := hrel
          have hdm := fun (h : m < s.size) => Hdg.out m (by rw [Hk.out]; exact h)
          have hmo := valAt_mono s k Hdg.out m 0 (by omega)
          have hnn := hmo.1
          have hmo2 := fun (h : m < s.size) => (valAt_mono s k Hdg.out (m + 1) (s.size - (m + 1)) (by rw [Hk.out]; omega)).2
          clear hmo
          by_cases hlt2 : m < s.size
          · have hb0 := bt_nonneg s m
            have hb1 := bt_le s m
            have hd := hdm hlt2
            have hd1 := hd.1
            have hd2 := hd.2
            have Hmo2 := Lib.hid (hmo2 hlt2)
            clear hdm hmo2 hd
            have hnext : valAt s (m + 1) = valAt s m * 10 + (bt s m - 48) := rfl
            have Hnext := Lib.hid hnext
            clear hnext
            have Hfin : Hid (most < valAt s (m + 1) → most < valAt s s.size) := by
              intro h
              have := Hmo2.out
              rw [show m + 1 + (s.size - (m + 1)) = s.size from by omega] at this
              omega
            by_cases c1 : most < bt s m - 48
            · go_wp2
              go_ret2
              exact ⟨readR_over HB.out (Hfin.out (by rw [Hnext.out]; omega)), rfl⟩
            · by_cases c2 : (most - (bt s m - 48)) / 10 < valAt s m
              · go_wp2
                go_ret2
                exact ⟨readR_over HB.out (Hfin.out (by rw [Hnext.out]; omega)), rfl⟩
              · go_wp2
                go_round
                case rel => exact ⟨m + 1, by omega, by go_num, by rw [Hnext.out]; go_num, by rw [Hnext.out]; omega⟩
                case measure => simp [intOf]; omega
          · have Hm : Hid (m = s.size) := by show m = s.size; omega
            clear hdm hmo2
            have hle' : valAt s m ≤ most := by omega
            go_wp2
            go_ret2
            have := hle'
            rw [Hm.out] at this
            exact ⟨readR_ok HB.out this (by rw [← Hm.out]), rfl⟩

set_option maxHeartbeats 400000 in
theorem refread_any (s : ByteArray) (most : Int) (w : World) (hs : s.size ≤ maxLen) (h1 : -9223372036854775808 ≤ most) (h2 : most ≤ 9223372036854775807) :
    Calls Try.prog 13 #[.string s, .int .i64 most] w fun e w' => e = .returned (readR s most) ∧ w = w' := by
  unfold maxLen at hs
  have hbt := get_bt s
  by_cases h0 : s.size = 0
  · have h0' : ((s.size : Int) == 0) = true := by simp [h0]
    have Hb : Bad s := .inl h0
    clear h0
    go_enter Try.func13, Try.ntmps13
    go_wp2
    go_ret2
    exact ⟨readR_bad Hb, rfl⟩
  have hpos : 0 < s.size := by omega
  have h0' : ((s.size : Int) == 0) = false := by simp [h0]
  by_cases hz : bt s 0 = 48 ∧ 1 < s.size
  · have Hb : Bad s := .inr (.inl hz)
    have hz' : (bt s 0 == 48) = true := by simp [hz.1]
    have hz2 : (1 : Int) < (s.size : Int) := by omega
    clear hz h0
    go_enter Try.func13, Try.ntmps13
    go_wp2
    go_ret2
    exact ⟨readR_bad Hb, rfl⟩
  have hz' : ((bt s 0 == 48) = false ∧ bt s 0 ≠ 48) ∨ ¬ (1 : Int) < (s.size : Int) := by
    by_cases h : bt s 0 = 48
    · exact .inr (by omega)
    · exact .inl ⟨by simp [h], h⟩
  have Hz := Lib.hid hz
  clear hz h0
  rcases hz' with ⟨hz', hz2⟩ | hz'
  · by_cases h1s : (1 : Int) < (s.size : Int)
    · exact refread_tail s most w hs h1 h2 hpos h0' (.inl ⟨h1s, hz'⟩) Hz.out
    · exact refread_tail s most w hs h1 h2 hpos h0' (.inr h1s) Hz.out
  · exact refread_tail s most w hs h1 h2 hpos h0' (.inr hz') Hz.out
end Go.Proofs.Ytpkdhdjfpbldhaa
