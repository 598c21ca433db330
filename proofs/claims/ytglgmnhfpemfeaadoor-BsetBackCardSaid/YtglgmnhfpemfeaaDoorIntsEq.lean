/- Two arrays of ints held against each other. -/
import Derived.Test.YtglgmnhfpemfeaaDoorBOps
import Derived.Stop.BytesEq
namespace Go.Proofs.YtglgmnhfpemfeaaDoor
open Go.RowKit Go.Extern.Stop
set_option linter.unusedVariables false

theorem run_equalIn_ints {P : Program} (w : World) (d : Nat) (t e : TypeId) (n : Nat) (k : IntKind) (ht : P.underlying t = some (.array n e)) (he : P.underlying e = some (.int k)) (hsz : ∀ w, (sizeOf e).run P w = .ok 1 w)
    (xs ys : List Int) (hx : xs.length = n) (hy : ys.length = n) :
    (Op.equalIn (d + 2) t (.agg (xs.map fun x => Value.int k x).toArray) (.agg (ys.map fun x => Value.int k x).toArray)).run P w = .ok ((List.range' 0 n 1).all fun i => xs.getD i 0 == ys.getD i 0) w := by
  rw [Op.equalIn]
  simp only [Sem.run_bind, run_underlying ht, Result.andThen_ok, hsz, Std.Legacy.Range.forIn_eq_forIn_range', Std.Legacy.Range.size, Nat.sub_zero, Nat.add_sub_cancel, Nat.div_one]
  have hl : ∀ i ∈ List.range' 0 n 1, i < n := fun i hi => by simpa using (List.mem_range'_1.1 hi).2
  generalize List.range' 0 n 1 = l at hl ⊢
  induction l with
  | nil => simp
  | cons i l ih =>
    have hi : i < n := hl i (by simp)
    have px : (part e (xs.map fun x => Value.int k x).toArray (i * 1)).run P w = .ok (.int k (xs.getD i 0)) w := by
      simp [part, isAgg, run_underlying he, List.getD, List.getElem?_eq_getElem (show i < xs.length by omega)]
    have py : (part e (ys.map fun x => Value.int k x).toArray (i * 1)).run P w = .ok (.int k (ys.getD i 0)) w := by
      simp [part, isAgg, run_underlying he, List.getD, List.getElem?_eq_getElem (show i < ys.length by omega)]
    have pe : (Op.equalIn (d + 1) e (.int k (xs.getD i 0)) (.int k (ys.getD i 0))).run P w = .ok (xs.getD i 0 == ys.getD i 0) w := by
      rw [run_equalIn_int w d e k k _ _ he]
    simp only [List.forIn_cons, Sem.run_bind, px, py, pe, Result.andThen_ok, List.all_cons]
    cases hb : (xs.getD i 0 == ys.getD i 0)
    · simp
    · simp only [Bool.not_true, Bool.false_eq_true, if_false, Sem.run_pure, Result.andThen_ok, Bool.true_and]
      exact ih fun j hj => hl j (by simp [hj])
theorem infoU64 : (Tryd.prog.info? 22).map (fun i => (i.zero, i.size, i.bytes)) = some (some (.int .u64 0), 1, 8) := by kernel_rfl
theorem infoInt : (Tryd.prog.info? 3).map (fun i => (i.zero, i.size, i.bytes)) = some (some (.int .i64 0), 1, 8) := by kernel_rfl
/-- Equality of sets, behind a name of its own. -/
def eqS (x y : Value) : Sem Bool := Op.equalIn 10000 24 x y
theorem eqS_eq (x y : Value) : Op.equalIn 10000 24 x y = eqS x y := rfl
theorem eqS_eq' (x y : Value) : Op.equal 24 x y = eqS x y := rfl
theorem run_eqS (a b c d a' b' c' d' : Int) (w : World) : (eqS (.agg #[.int .u64 a, .int .u64 b, .int .u64 c, .int .u64 d]) (.agg #[.int .u64 a', .int .u64 b', .int .u64 c', .int .u64 d'])).run Tryd.prog w = .ok (a == a' && (b == b' && (c == c' && d == d'))) w := by
  obtain ⟨i0, hi, _, hz1, _⟩ := info_parts infoU64
  have := run_equalIn_ints (P := Tryd.prog) w 9998 24 22 4 .u64 Tryd.underlying24 Tryd.underlying22 (fun w => by simp [sizeOf, typeInfo, hi, hz1]) [a, b, c, d] [a', b', c', d'] rfl rfl
  refine Eq.trans this ?_
  simp [List.range']
def eqR (x y : Value) : Sem Bool := Op.equalIn 10000 32 x y
theorem eqR_eq (x y : Value) : Op.equalIn 10000 32 x y = eqR x y := rfl
theorem eqR_eq' (x y : Value) : Op.equal 32 x y = eqR x y := rfl
theorem run_eqR (a b a' b' : Int) (w : World) : (eqR (.agg #[.int .i64 a, .int .i64 b]) (.agg #[.int .i64 a', .int .i64 b'])).run Tryd.prog w = .ok (a == a' && b == b') w := by
  obtain ⟨i0, hi, _, hz1, _⟩ := info_parts infoInt
  have := run_equalIn_ints (P := Tryd.prog) w 9998 32 3 2 .i64 Tryd.underlying32 Tryd.underlying3 (fun w => by simp [sizeOf, typeInfo, hi, hz1]) [a, b] [a', b'] rfl rfl
  refine Eq.trans this ?_
  simp [List.range']
end Go.Proofs.YtglgmnhfpemfeaaDoor
