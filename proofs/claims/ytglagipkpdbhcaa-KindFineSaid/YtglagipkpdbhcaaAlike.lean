import Derived.Test.YtglagipkpdbhcaaSRow
namespace Go.Proofs.Ytglagipkpdbhcaa
open Go.RowKit Go.Sort

theorem alike_any (ls : List (Nat → Bool)) (x y : Nat) (a : Option Addr) (len cap : Nat) (w : World) (h : SRow w a len ls) (hx : x < 256) (hy : y < 256) :
    Calls Try.prog 22 #[.slice a len cap, .int .i64 x, .int .i64 y] w fun e w' => e = .returned (.bool (ls.all fun S => S x == S y)) ∧ Below w.heap.size w w' := by
  have hl1 := h.1
  have hl2 := h.2.1
  have Hl := Lib.hid hl1
  clear hl1
  go_enter Try.func22, Try.ntmps22
  go_wp2
  go_loopw [7] (fun i wr => ∃ k : Nat, k ≤ len ∧ i = .int .i64 k ∧ (∀ S ∈ ls.take k, S x = S y) ∧ Below w.heap.size w wr) (fun i _ => len - (intOf i).toNat)
  case atStart => exact ⟨0, by omega, rfl, by simp, Below.refl _ _⟩
  case round =>
    obtain ⟨k, hk, rfl, hal, hb⟩ := hrel
    have Hal := Lib.hid hal
    clear hal
    by_cases hlt : k < len
    · obtain ⟨b, off, S, rfl, hbl, hS, c0, c1, c2, c3⟩ := (h.below hb).at_ hlt
      have k0 := cell_regrown c0
      have k1 := cell_regrown c1
      have k2 := cell_regrown c2
      have k3 := cell_regrown c3
      have hxs := refhas_any S x
      have hys := refhas_any S y
      have h1 := fun w' => hxs w' hx
      have h2 := fun w' => hys w' hy
      unfold setV at h1 h2
      have H1 := Lib.hid h1
      have H2 := Lib.hid h2
      have HS := Lib.hid hS
      clear hxs hys h1 h2 hS
      have wx : IntKind.u8.wrap (x : Int) = x := IntWalk.u8_in _ ⟨by omega, by omega⟩
      have wy : IntKind.u8.wrap (y : Int) = y := IntWalk.u8_in _ ⟨by omega, by omega⟩
      go_wp2
      refine wp_region_quiet_below (by kernel_rfl) (by kernel_rfl) ?_
      repeat (quiet_step (first | (with_reducible exact regrown_call H1.out _ _) | (with_reducible exact regrown_call H2.out _ _)))
      refine wpQuiet_nil ?_
      intro _ hw'
      obtain ⟨⟨dq, osq⟩, hw''⟩ := hw'
      subst hw''
      clear wx wy
      have hb2 := hb.trans ((below_regrown wr dq osq).mono hb.size)
      cases hxy : (S x == S y)
      · have Hr : Hid ((ls.all fun S => S x == S y) = false) := by
          show _ = _
          rw [List.all_eq_false]
          exact ⟨S, List.mem_of_getElem? HS.out, by simpa using hxy⟩
        go_wp2
        go_ret
        exact ⟨ret_bool Hr.out.symm, hb2⟩
      · go_wp2
        go_roundw
        case rel =>
          refine ⟨k + 1, by omega, by go_num, fun T hT => ?_, hb2⟩
          rw [List.take_add_one, HS.out] at hT
          rcases List.mem_append.1 hT with hT | hT
          · exact Hal.out T hT
          · have : T = S := by simpa using hT
            subst this; simpa using hxy
        case measure => simp [intOf]; omega
    · have Hr : Hid ((ls.all fun S => S x == S y) = true) := by
        show _ = _
        rw [List.all_eq_true]
        intro S hS
        have := Hal.out
        rw [List.take_of_length_le (by rw [Hl.out]; omega)] at this
        simp [this S hS]
      go_wp2
      go_ret
      exact ⟨ret_bool Hr.out.symm, hb⟩
end Go.Proofs.Ytglagipkpdbhcaa
