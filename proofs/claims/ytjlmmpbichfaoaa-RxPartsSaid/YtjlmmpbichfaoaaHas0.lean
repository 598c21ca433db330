/- Is a byte in a set: the two programs' Has, by their contracts. -/
import Derived.Test.YtjlmmpbichfaoaaRows
import Derived.Test.YtjlmmpbichfaoaaSets
import Derived.WalkKit
import Derived.WalkLawsBesides
import Derived.WalkSpells
import Derived.Lib.Hide
import Derived.Deep.QuietTactic
import Derived.BigQuiet
namespace Go.Proofs.Ytjlmmpbichfaoaa
open Go.RowKit

theorem quiet_id {P : Program} {f : FuncId} {args : Array Value} {w : World} {n : Nat} {v : Value}
    (h : Calls P f args (w.drewN n) fun e w' => e = .returned v ∧ w.drewN n = w') : Calls P f args (w.drewN n) fun e w'' => e = .returned v ∧ ∃ m, w'' = w.drewN m :=
  h.mono fun _ _ ⟨he, hm⟩ => ⟨he, n, hm.symm⟩
theorem ret_int {k : IntKind} {a b : Int} (h : a = b) : Ending.returned (.int k a) = .returned (.int k b) := by rw [h]
theorem ret_bool {a b : Bool} (h : a = b) : Ending.returned (.bool a) = .returned (.bool b) := by rw [h]
theorem words_at (S : Nat → Bool) (i : Nat) (h : i < 4) : (#[Value.int .u64 (wd S 0), .int .u64 (wd S 1), .int .u64 (wd S 2), .int .u64 (wd S 3)] : Array Value)[i]? = some (.int .u64 (wd S i)) := by
  have : i = 0 ∨ i = 1 ∨ i = 2 ∨ i = 3 := by omega
  rcases this with rfl | rfl | rfl | rfl <;> rfl

theorem wrap_pow (k : Nat) (h : k < 64) : IntKind.u64.wrap ((2 : Int) ^ k) = ((2 ^ k : Nat) : Int) := by
  have hlt : 2 ^ k < 2 ^ 64 := Nat.pow_lt_pow_right (by omega) h
  have e : ((2 : Int) ^ k) = ((2 ^ k : Nat) : Int) := by simp
  rw [e]
  generalize 2 ^ k = m at hlt
  exact IntWalk.u64_in _ ⟨by omega, by omega⟩
theorem mask_bit (S : Nat → Bool) (n : Nat) : (bits .and .u64 (wd S (n / 64) : Int) (IntKind.u64.wrap ((2 : Int) ^ (n % 64))) != 0) = S n := by
  have hk : n % 64 < 64 := by omega
  have hlt : 2 ^ (n % 64) < 2 ^ 64 := Nat.pow_lt_pow_right (by omega) hk
  rw [wrap_pow _ hk, bits_and_u64 _ _ (wd_lt _ _) hlt]
  have : (((wd S (n / 64) &&& 2 ^ (n % 64) : Nat) : Int) != 0) = ((wd S (n / 64) &&& 2 ^ (n % 64)) != 0) := by
    rw [Bool.eq_iff_iff]; simp
  rw [this, and_pow_ne, wd_bit]
  simp [hk, show 64 * (n / 64) + n % 64 = n by omega]
theorem shift_bit (S : Nat → Bool) (n : Nat) : (((wd S (n / 64) : Int) / 2 ^ (n % 64)).tmod 2 == 1) = S n := by
  have hk : n % 64 < 64 := by omega
  have e : ((wd S (n / 64) : Int) / 2 ^ (n % 64)) = ((wd S (n / 64) / 2 ^ (n % 64) : Nat) : Int) := by simp
  rw [e]
  have e2 : ((wd S (n / 64) / 2 ^ (n % 64) : Nat) : Int).tmod 2 = ((wd S (n / 64) / 2 ^ (n % 64) % 2 : Nat) : Int) := rfl
  rw [e2]
  have : (((wd S (n / 64) / 2 ^ (n % 64) % 2 : Nat) : Int) == 1) = (wd S (n / 64) / 2 ^ (n % 64) % 2 == 1) := by
    rw [Bool.eq_iff_iff, beq_iff_eq, beq_iff_eq]; omega
  rw [this, shr_odd, wd_bit]
  simp [hk, show 64 * (n / 64) + n % 64 = n by omega]

theorem bcell {W w1 : World} (hb : Below W.heap.size W w1) : (∀ b o, b < W.heap.size → w1.cell? ⟨b, o, none⟩ = W.cell? ⟨b, o, none⟩) ∧ (∀ b o, b < W.heap.size → w1.frozen? ⟨b, o, none⟩ = W.frozen? ⟨b, o, none⟩) :=
  ⟨fun b o h => hb.cell (p := ⟨b, o, none⟩) h, fun b o h => hb.frozen (p := ⟨b, o, none⟩) h⟩
theorem keeps {W w1 : World} (hb : Below W.heap.size W w1) : ∀ p u, W.cell? p = some u → w1.cell? p = some u :=
  fun p _ h => (hb.cell (World.block_lt_of_cell? W p h)).trans h
end Go.Proofs.Ytjlmmpbichfaoaa
