/- Steps of expressions as rows; which are the same. -/
import Derived.Test.YtjlmmpbichfaoaaWith0
import Derived.Test.YtjlmmpbichfaoaaAppEl
import Derived.Test.YtjlmmpbichfaoaaAppRow
import Derived.Stop.BytesEq
namespace Go.Proofs.Ytjlmmpbichfaoaa
open Go.RowKit Go.Extern.Stop
set_option linter.unusedVariables false

/-- A step. -/
structure Rx where
  k : Int
  s : Nat → Bool
instance : Inhabited Rx := ⟨⟨0, emptyS⟩⟩
def rxC (r : Rx) : List Value := [.int .i64 r.k, .int .u64 (wd r.s 0), .int .u64 (wd r.s 1), .int .u64 (wd r.s 2), .int .u64 (wd r.s 3)]
theorem rxC_len (r : Rx) : (rxC r).length = 5 := rfl
theorem rxC_one (r : Rx) : ∀ u ∈ rxC r, u.oneCell' = true := fun u hu => by
  simp [rxC] at hu
  rcases hu with rfl | rfl | rfl | rfl | rfl <;> rfl
/-- A step without a set. -/
def stp0 (k : Int) : Rx := ⟨k, emptyS⟩
theorem stp0_C (k : Int) : rxC (stp0 k) = [.int .i64 k, .int .u64 0, .int .u64 0, .int .u64 0, .int .u64 0] := by
  simp [rxC, stp0, wd_emptyS]
theorem infoRx : (Try.prog.info? 44).map (fun i => (i.zero, i.size, i.bytes)) = some (some (.agg #[.int .i64 0, .int .u64 0, .int .u64 0, .int .u64 0, .int .u64 0]), 5, 40) := by kernel_rfl
theorem infoSet : (Try.prog.info? 25).map (fun i => (i.zero, i.size, i.bytes)) = some (some (.agg #[.int .u64 0, .int .u64 0, .int .u64 0, .int .u64 0]), 4, 32) := by kernel_rfl
theorem infoKind : (Try.prog.info? 34).map (fun i => (i.zero, i.size, i.bytes)) = some (some (.int .i64 0), 1, 8) := by kernel_rfl
theorem infoU64 : (Try.prog.info? 23).map (fun i => (i.zero, i.size, i.bytes)) = some (some (.int .u64 0), 1, 8) := by kernel_rfl
theorem run_equalIn_ints {P : Program} (w : World) (d : Nat) (t e : TypeId) (n : Nat) (k : IntKind) (ht : P.underlying t = some (.array n e)) (he : P.underlying e = some (.int k)) (hsz : ∀ w, (sizeOf e).run P w = .ok 1 w)
    (xs ys : List Int) (hx : xs.length = n) (hy : ys.length = n) :
    (Op.equalIn (d + 2) t (.agg (xs.map fun x => Value.int k x).toArray) (.agg (ys.map fun x => Value.int k x).toArray)).run P w = .ok ((List.range' 0 n 1).all fun i => xs.getD i 0 == ys.getD i 0) w := by
  rw [Op.equalIn]
  simp only [Sem.run_bind, run_underlying ht, Result.andThen_ok, hsz, Std.Legacy.Range.forIn_eq_forIn_range', Std.Legacy.Range.size, Nat.sub_zero, Nat.add_sub_cancel, Nat.div_one]
  have hl : ∀ i ∈ List.range' 0 n 1, i < n := fun i hi => by simpa using (List.mem_range'_1.1 hi).2
  generalize List.range' 0 n 1 = l at hl ⊢
  induction l with
  | nil => simp
  | cons i l ih =>
    have hi : i < n := hl i (by simp)
    have px : (part e (xs.map fun x => Value.int k x).toArray (i * 1)).run P w = .ok (.int k (xs.getD i 0)) w := by
      simp [part, isAgg, run_underlying he, List.getD, List.getElem?_eq_getElem (show i < xs.length by omega)]
    have py : (part e (ys.map fun x => Value.int k x).toArray (i * 1)).run P w = .ok (.int k (ys.getD i 0)) w := by
      simp [part, isAgg, run_underlying he, List.getD, List.getElem?_eq_getElem (show i < ys.length by omega)]
    have pe : (Op.equalIn (d + 1) e (.int k (xs.getD i 0)) (.int k (ys.getD i 0))).run P w = .ok (xs.getD i 0 == ys.getD i 0) w := by
      rw [run_equalIn_int w d e k k _ _ he]
    simp only [List.forIn_cons, Sem.run_bind, px, py, pe, Result.andThen_ok, List.all_cons]
    cases hb : (xs.getD i 0 == ys.getD i 0)
    · simp
    · simp only [Bool.not_true, Bool.false_eq_true, if_false, Sem.run_pure, Result.andThen_ok, Bool.true_and]
      exact ih fun j hj => hl j (by simp [hj])
theorem run_eq_set (d : Nat) (a b c e a' b' c' e' : Int) (w : World) : (Op.equalIn (d + 2) 25 (.agg #[.int .u64 a, .int .u64 b, .int .u64 c, .int .u64 e]) (.agg #[.int .u64 a', .int .u64 b', .int .u64 c', .int .u64 e'])).run Try.prog w = .ok (a == a' && (b == b' && (c == c' && e == e'))) w := by
  obtain ⟨i0, hi, _, hz1, _⟩ := info_parts infoU64
  have := run_equalIn_ints (P := Try.prog) w d 25 23 4 .u64 Try.underlying25 Try.underlying23 (fun w => by simp [sizeOf, typeInfo, hi, hz1]) [a, b, c, e] [a', b', c', e'] rfl rfl
  refine Eq.trans this ?_
  simp [List.range']
def eqS (x y : Value) : Sem Bool := Op.equalIn 10000 25 x y
theorem eqS_eq (x y : Value) : Op.equalIn 10000 25 x y = eqS x y := rfl
theorem eqS_eq' (x y : Value) : Op.equal 25 x y = eqS x y := rfl
theorem run_eqS (a b c d a' b' c' d' : Int) (w : World) : (eqS (.agg #[.int .u64 a, .int .u64 b, .int .u64 c, .int .u64 d]) (.agg #[.int .u64 a', .int .u64 b', .int .u64 c', .int .u64 d'])).run Try.prog w = .ok (a == a' && (b == b' && (c == c' && d == d'))) w := run_eq_set 9998 _ _ _ _ _ _ _ _ w
/-- Equality of steps, behind a name of its own. -/
def eqX (x y : Value) : Sem Bool := Op.equalIn 10000 44 x y
theorem eqX_eq (x y : Value) : Op.equalIn 10000 44 x y = eqX x y := rfl
theorem eqX_eq' (x y : Value) : Op.equal 44 x y = eqX x y := rfl
theorem run_eqX (k a b c d : Int) (w : World) : (eqX (.agg #[.int .i64 k, .int .u64 a, .int .u64 b, .int .u64 c, .int .u64 d]) (.agg #[.int .i64 k, .int .u64 a, .int .u64 b, .int .u64 c, .int .u64 d])).run Try.prog w = .ok true w := by
  have hs := run_eq_set 9997 a b c d a b c d w
  simp only [beq_self_eq_true, Bool.and_self] at hs
  have hk := run_equalIn_int (P := Try.prog) w 9998 34 .i64 .i64 k k Try.underlying34
  simp only [beq_self_eq_true] at hk
  unfold eqX
  rw [show (10000 : Nat) = 9999 + 1 from rfl, Op.equalIn]
  simp only [Sem.run_bind, run_underlying Try.underlying44, Result.andThen_ok]
  have hst : Try.prog.stoodInHeld 44 = false := by kernel_rfl
  obtain ⟨iS, hiS, _, hzS, _⟩ := info_parts infoSet
  obtain ⟨iK, hiK, _, hzK, _⟩ := info_parts infoKind
  have h1 : (part 34 #[Value.int .i64 k, .int .u64 a, .int .u64 b, .int .u64 c, .int .u64 d] 0).run Try.prog w = .ok (.int .i64 k) w := by
    simp [part, isAgg, run_underlying Try.underlying34, sizeOf, typeInfo, hiK, hzK]
  have h2 : (part 25 #[Value.int .i64 k, .int .u64 a, .int .u64 b, .int .u64 c, .int .u64 d] 1).run Try.prog w = .ok (.agg #[.int .u64 a, .int .u64 b, .int .u64 c, .int .u64 d]) w := by
    simp [part, isAgg, run_underlying Try.underlying25, sizeOf, typeInfo, hiS, hzS]
  have hpr : (program).run Try.prog w = .ok Try.prog w := rfl
  simp [hpr, hst, h1, h2, hs, hk]
end Go.Proofs.Ytjlmmpbichfaoaa
