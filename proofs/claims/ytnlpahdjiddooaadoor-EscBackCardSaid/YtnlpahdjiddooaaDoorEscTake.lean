/- Taking a text from between quotes: the program's, and the document's. -/
import Derived.Test.YtnlpahdjiddooaaDoorEscRef
import Derived.Lib.BufferRead
namespace Go.Proofs.YtnlpahdjiddooaaDoor
open Go.RowKit Go.PlainAid
set_option linter.unusedVariables false

/-- What is taken, how long the rest is from the quote on, and what is wrong. -/
def tkF : Nat → List UInt8 → List UInt8 → List UInt8 × Nat × Nat
  | 0, _, _ => ([], 0, 4)
  | f + 1, r, out => match r with
    | [] => ([], 0, 4)
    | c :: _ => if c = 34 then (out, r.length, 0) else if (stepS r).2.2 = 0 then tkF f (r.drop (stepS r).2.1) (out ++ [cu8 (stepS r).1]) else ([], 0, (stepS r).2.2)
/-- The result of Take. -/
def takeR (s : List UInt8) (at_ : Int) : List UInt8 × Int × Nat :=
  if at_ < 0 ∨ (s.length : Int) < at_ then ([], 0, 2)
  else if s[at_.toNat]? = some 34 then (match tkF (s.length + 1) (s.drop (at_.toNat + 1)) [] with | (o, m, e) => if e = 0 then (o, (s.length : Int) - m + 1, 0) else ([], 0, e))
  else ([], 0, 5)
def tv (x : List UInt8 × Int × Nat) : Value := .tuple #[.string (BA x.1), .int .i64 x.2.1, .int .i64 (x.2.2 : Nat)]
theorem ret_tv {x : List UInt8 × Int × Nat} {a : List UInt8} {b : Int} {c : Nat} (h : x = (a, b, c)) : Ending.returned (.tuple #[.string (BA a), .int .i64 b, .int .i64 (c : Int)]) = .returned (tv x) := by subst h; rfl
theorem conv_row {W : World} {base n : Nat} {v : Value} {l : List UInt8} (h : W.ownsRow base 5 1 v n (Lib.byteCells l)) : (convert 35 9 v).run Tryd.prog W = .ok (.string (BA l)) W := by
  rcases h.2 with ⟨rfl, h0⟩ | ⟨g, cap, cur, rfl, hb, hg, hn, hm, hsz, htk⟩
  · have hl : l = [] := by have := h.1; rw [h0] at this; simp [Lib.byteCells] at this; exact this
    subst hl
    exact Lib.run_convert_nil_bytes W 35 9 5 0 Tryd.underlying35 Tryd.underlying5 Tryd.underlying9
  · have hn2 : l.length = n := by have := h.1; rw [Lib.byteCells_length] at this; omega
    subst hn2
    exact run_convert_bytes_back (P := Tryd.prog) W 35 9 5 ⟨g, 0, none⟩ cap l Tryd.underlying35 Tryd.underlying5 Tryd.underlying9 (by
      intro j hj
      have e : (⟨g, 0, none⟩ : Addr).add j = ⟨g, j, none⟩ := by unfold Addr.add; split <;> simp_all
      rw [e, cell_of_row W g j _ _ _ hg]
      have h1 : (cur.toList.take (l.length * 1))[j]? = (Lib.byteCells l)[j]? := by rw [htk]
      rw [List.getElem?_take_of_lt (by omega)] at h1
      rw [← Array.getElem?_toList, h1]
      simp [Lib.byteCells, List.getElem?_eq_getElem hj])
end Go.Proofs.YtnlpahdjiddooaaDoor
