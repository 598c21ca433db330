import Derived.Test.YtajfnkboeaflnaaQRef
namespace Go.Proofs.Ytajfnkboeaflnaa
open Go.RowKit

theorem bstr_self (s : ByteArray) : bstr s.data.toList = s := by cases s; rfl
theorem rput_no (w : World) (room : Nat) (bs : List UInt8) (a : Option Addr) (len cap : Nat) (ls : List ByteArray) (hs : StrRow w a len ls) (hbd : bs.length + (flat ls).length ≤ 1099511627776) (hroom : room < bs.length + (flat ls).length) :
    Calls Try.prog 12 #[refV room bs, .slice a len cap] w fun e w' => e = .returned (.tuple #[refV room (bs), .int .i64 6]) ∧ Below w.heap.size w w' := by
  have hl2 := hs.2.1
  have Hl := Lib.hid hs.1
  have HBD := Lib.hid hbd
  have HSZ := Lib.hid (bstr_size (bs ++ flat ls))
  have e1 : (bs ++ flat ls).length = bs.length + (flat ls).length := List.length_append
  rw [← e1, ← bstr_size (bs ++ flat ls)] at hroom
  clear e1
  unfold refV
  obtain ⟨t, ht⟩ : ∃ t, bstr (bs ++ flat ls) = t := ⟨_, rfl⟩
  have HTT := Lib.hid ht
  rw [ht] at hroom
  clear ht
  have HR0 : ∀ s : ByteArray, Hid ((((w.alloc (.cells #[.int .i64 room, .string (bstr bs)] 33)).alloc (.cells #[.int .i64 0, .string ⟨#[]⟩] 33))).heap.size = w.heap.size + 2) := fun s => by show _ = _; simp
  obtain ⟨s0, hs0⟩ : ∃ s0, bstr bs = s0 := ⟨_, rfl⟩
  have HS0 := Lib.hid hs0
  rw [hs0]
  clear hs0 hbd HR0
  have hri : (room : Int) < (t.size : Int) := by omega
  have j : decide ((room : Int) < (t.size : Int)) = true := decide_eq_true hri
  have HJ := Lib.hid j
  have HRI := Lib.hid hri
  clear j hri hroom
  go_enter Try.func12, Try.ntmps12
  go_wp2
  go_loop [6, 7] (fun v i => ∃ k : Nat, k ≤ len ∧ i = .int .i64 k ∧ v = .string (bstr (bs ++ flat (ls.take k)))) (fun _ i => len - (intOf i).toNat)
  case atStart => exact ⟨0, by omega, rfl, by simp [flat, HS0.out]⟩
  case round =>
    obtain ⟨k, hk, rfl, rfl⟩ := hrel
    by_cases hlt : k < len
    · obtain ⟨b, off, s, rfl, hbl, hs1, hs2, hc⟩ := hs.at_ hlt
      have hfl := flat_take ls k s hs1
      have h2 := flat_le ls (k + 1)
      have h3 := HBD.out
      have hbl' : b ≠ w.heap.size := by omega
      have hsz : (bstr (bs ++ flat (ls.take k))).size + s.size ≤ 1099511627776 := by
        rw [bstr_size, List.length_append]
        have e1 : (flat (ls.take (k + 1))).length = (flat (ls.take k)).length + s.size := by rw [hfl]; simp
        omega
      have HN : Hid (bstr (bs ++ flat (ls.take k)) ++ s = bstr (bs ++ flat (ls.take (k + 1)))) := by show _ = _; rw [bstr_app, hfl, List.append_assoc]
      obtain ⟨t, ht⟩ : ∃ t, bstr (bs ++ flat (ls.take k)) = t := ⟨_, rfl⟩
      rw [ht] at HN hsz ⊢
      clear hfl h2 h3 ht hs1
      go_wp2
      go_round
      case rel => exact ⟨k + 1, by omega, by go_num, by rw [HN.out]⟩
      case measure => simp [intOf]; omega
    · have Hk : Hid (ls.take k = ls) := by show _ = _; exact List.take_of_length_le (by rw [Hl.out]; omega)
      rw [Hk.out]
      rw [HTT.out]
      have j := HJ.out
      have hri := HRI.out
      go_wp2
      refine bodyPost_ret (v := .tuple #[.agg #[.int .i64 room, .string s0], .int .i64 6]) (by simp [results, Try.results12, go_sem]) rfl ⟨rfl, ?_⟩
      exact ((Below.refl _ _).alloc (Nat.le_refl _) _).alloc (by simp) _
theorem rput_yes (w : World) (room : Nat) (bs : List UInt8) (a : Option Addr) (len cap : Nat) (ls : List ByteArray) (hs : StrRow w a len ls) (hbd : bs.length + (flat ls).length ≤ 1099511627776) (hroom : ¬ room < bs.length + (flat ls).length) :
    Calls Try.prog 12 #[refV room bs, .slice a len cap] w fun e w' => e = .returned (.tuple #[refV room (bs ++ flat ls), .int .i64 0]) ∧ Below w.heap.size w w' := by
  have hl2 := hs.2.1
  have Hl := Lib.hid hs.1
  have HBD := Lib.hid hbd
  have HSZ := Lib.hid (bstr_size (bs ++ flat ls))
  have e1 : (bs ++ flat ls).length = bs.length + (flat ls).length := List.length_append
  rw [← e1, ← bstr_size (bs ++ flat ls)] at hroom
  clear e1
  unfold refV
  obtain ⟨t, ht⟩ : ∃ t, bstr (bs ++ flat ls) = t := ⟨_, rfl⟩
  have HTT := Lib.hid ht
  rw [ht] at hroom ⊢
  clear ht
  have HR0 : ∀ s : ByteArray, Hid ((((w.alloc (.cells #[.int .i64 room, .string (bstr bs)] 33)).alloc (.cells #[.int .i64 0, .string ⟨#[]⟩] 33))).heap.size = w.heap.size + 2) := fun s => by show _ = _; simp
  obtain ⟨s0, hs0⟩ : ∃ s0, bstr bs = s0 := ⟨_, rfl⟩
  have HS0 := Lib.hid hs0
  rw [hs0]
  clear hs0 hbd HR0
  have hri : ¬ ((room : Int) < (t.size : Int)) := by omega
  have j : decide ((room : Int) < (t.size : Int)) = false := decide_eq_false hri
  have HJ := Lib.hid j
  have HRI := Lib.hid hri
  clear j hri hroom
  go_enter Try.func12, Try.ntmps12
  go_wp2
  go_loop [6, 7] (fun v i => ∃ k : Nat, k ≤ len ∧ i = .int .i64 k ∧ v = .string (bstr (bs ++ flat (ls.take k)))) (fun _ i => len - (intOf i).toNat)
  case atStart => exact ⟨0, by omega, rfl, by simp [flat, HS0.out]⟩
  case round =>
    obtain ⟨k, hk, rfl, rfl⟩ := hrel
    by_cases hlt : k < len
    · obtain ⟨b, off, s, rfl, hbl, hs1, hs2, hc⟩ := hs.at_ hlt
      have hfl := flat_take ls k s hs1
      have h2 := flat_le ls (k + 1)
      have h3 := HBD.out
      have hbl' : b ≠ w.heap.size := by omega
      have hsz : (bstr (bs ++ flat (ls.take k))).size + s.size ≤ 1099511627776 := by
        rw [bstr_size, List.length_append]
        have e1 : (flat (ls.take (k + 1))).length = (flat (ls.take k)).length + s.size := by rw [hfl]; simp
        omega
      have HN : Hid (bstr (bs ++ flat (ls.take k)) ++ s = bstr (bs ++ flat (ls.take (k + 1)))) := by show _ = _; rw [bstr_app, hfl, List.append_assoc]
      obtain ⟨t, ht⟩ : ∃ t, bstr (bs ++ flat (ls.take k)) = t := ⟨_, rfl⟩
      rw [ht] at HN hsz ⊢
      clear hfl h2 h3 ht hs1
      go_wp2
      go_round
      case rel => exact ⟨k + 1, by omega, by go_num, by rw [HN.out]⟩
      case measure => simp [intOf]; omega
    · have Hk : Hid (ls.take k = ls) := by show _ = _; exact List.take_of_length_le (by rw [Hl.out]; omega)
      rw [Hk.out]
      rw [HTT.out]
      have j := HJ.out
      have hri := HRI.out
      go_wp2
      refine bodyPost_ret (v := .tuple #[.agg #[.int .i64 room, .string t], .int .i64 0]) (by simp [results, Try.results12, go_sem]) rfl ⟨rfl, ?_⟩
      exact ((Below.refl _ _).alloc (Nat.le_refl _) _).alloc (by simp) _
end Go.Proofs.Ytajfnkboeaflnaa
