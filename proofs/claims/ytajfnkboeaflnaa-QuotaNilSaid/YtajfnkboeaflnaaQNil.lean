import Derived.Test.YtajfnkboeaflnaaOutKnows
namespace Go.Proofs.Ytajfnkboeaflnaa
open Go.RowKit
set_option maxHeartbeats 400000 in
theorem quotaNil_any (s : ByteArray) (n c : Int) (w : World) (_ : s.size ≤ maxLen) (_ : (Lit.int .i64 n).wf = true) (_ : (Lit.int .u8 c).wf = true) :
    Calls Try.prog 5 #[.string s, .int .i64 n, .int .u8 c] w fun e w' => e = .returned (.bool true) ∧ Below w.heap.size w w' := by
  have HK := Lib.hid fun w' => knows_any w'
  go_enter Try.func5, Try.ntmps5
  go_wp2_with (first
    | (go_at_call 18; (with_reducible refine (last_nil _).mono ?_); rintro e w1 ⟨rfl, rfl⟩)
    | (go_at_call 7; (with_reducible refine (put_nil _ _ _ _).mono ?_); rintro e w2 ⟨rfl, rfl⟩)
    | (go_at_call 13; (with_reducible refine (pad_nil _ _ _).mono ?_); rintro e w3 ⟨rfl, rfl⟩)
    | (go_at_call 15; (with_reducible refine (cut_nil _ _).mono ?_); rintro e w4 ⟨rfl, rfl⟩)
    | (go_at_call 19; (with_reducible refine (len_nil _).mono ?_); rintro e w5 ⟨rfl, rfl⟩)
    | (go_at_call 20; (with_reducible refine (leftO_nil _).mono ?_); rintro e w6 ⟨rfl, rfl⟩)
    | (go_at_call 8; (with_reducible refine (text_nil _).mono ?_); rintro e w7 ⟨rfl, rfl⟩)
    | (go_at_call 9; (with_reducible refine (HK.out _).mono ?_); rintro e w8 ⟨rfl, hb8⟩))
  go_ret
  exact ⟨rfl, ((Below.refl _ _).alloc (Nat.le_refl _) _).trans (hb8.mono (by simp))⟩
end Go.Proofs.Ytajfnkboeaflnaa
