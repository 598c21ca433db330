/- Several texts in one: KBytes, BuildS, Read5. -/
import Derived.Test.YtmkgipoljbiocaaTw2
import Derived.Test.YtmkgipoljbiocaaTw5
namespace Go.Proofs.Ytmkgipoljbiocaa
open Go.RowKit Go.Sort

/-- The bytes of class c, below n. -/
def bytesC (C : Nat → Nat) (c : Int) : Nat → List Nat
  | 0 => []
  | n + 1 => bytesC C c n ++ if (C n : Int) = c then [n] else []
theorem bytesC_len (C : Nat → Nat) (c : Int) : ∀ n, (bytesC C c n).length ≤ n
  | 0 => by simp [bytesC]
  | n + 1 => by have := bytesC_len C c n; simp only [bytesC]; split <;> simp <;> omega
def vals (l : List Nat) : List Value := l.map fun (n : Nat) => Value.int .u8 (n : Int)
theorem vals_snoc (l : List Nat) (k : Nat) : vals l ++ [.int .u8 k] = vals (l ++ [k]) := by simp [vals]

theorem bytesC_yes (C : Nat → Nat) (c : Int) (k : Nat) (h : (C k : Int) = c) : bytesC C c (k + 1) = bytesC C c k ++ [k] := by simp [bytesC, h]
theorem bytesC_no (C : Nat → Nat) (c : Int) (k : Nat) (h : ¬ (C k : Int) = c) : bytesC C c (k + 1) = bytesC C c k := by simp [bytesC, h]
set_option maxRecDepth 100000 in
theorem bytes_any (C : Nat → Nat) (hC : ∀ i, i < 256 → C i < 256) (c : Int) (w : World) :
    Calls Try.prog 29 #[.agg (arrC C), .int .i64 c] w fun e w' => ∃ v, e = .returned v ∧ w'.ownsRow w.heap.size 5 1 v (bytesC C c 256).length (vals (bytesC C c 256)) ∧ Below w.heap.size w w' := by
  obtain ⟨i0, hi, hz0, hz1, hz2⟩ := info_parts infoU8
  go_enter Try.func29, Try.ntmps29
  go_wp2
  go_loopw [5, 7] (fun v i wr => ∃ k : Nat, k ≤ 256 ∧ i = .int .i64 k ∧ wr.ownsRow (w.heap.size + 1) 5 1 v (bytesC C c k).length (vals (bytesC C c k)) ∧ Below (w.heap.size + 1) (w.alloc (.cells (arrC C) 30)) wr) (fun _ i _ => 256 - (intOf i).toNat)
  case atStart => exact ⟨0, by omega, rfl, World.ownsRow_nil _ _ _ _, Below.refl _ _⟩
  case round =>
    obtain ⟨k, hk, rfl, hown, hb⟩ := hrel
    have hsz : w.heap.size + 1 ≤ wr.heap.size := by have := hb.size; simpa using this
    by_cases hlt : k < 256
    · have hcell : wr.cell? ⟨w.heap.size, k, none⟩ = some (.int .u8 (C k)) := (hb.cell (p := ⟨w.heap.size, k, none⟩) (by show w.heap.size < _; omega)).trans (arr_cells w C _ k hlt)
      have hc := hC k hlt
      by_cases heq : (C k : Int) = c
      · have heq' : ((C k : Int) == c) = true := by simp [heq]
        have Hb := Lib.hid (bytesC_yes C c k heq)
        have hl := bytesC_len C c k
        have hA := Lib.hid fun ops rest o a Q hg s x ho hs hx h => app1 (P := Try.prog) (T := 61) Try.underlying61 hi hz0 hz1 hz2 rfl hown (u := .int .u8 k) rfl (by unfold maxLen; omega) (by omega) hsz ops rest o a Q hg s x ho hs hx h
        obtain ⟨z, hz⟩ : ∃ z, C k = z := ⟨_, rfl⟩
        rw [hz] at hcell heq' hc
        clear heq hz
        go_wp2_with (at_builtin; refine hA.out _ _ _ _ _ rfl _ _ rfl rfl rfl ?_; intro v' w1 hown1 hg1)
        have hb1 := app1_below hb hsz hown hg1
        go_roundw
        case rel => exact ⟨k + 1, by omega, by go_num, by rw [Hb.out, ← vals_snoc, List.length_append]; exact hown1, hb1⟩
        case measure => simp [intOf]; omega
      · have heq' : ((C k : Int) == c) = false := by simp [heq]
        have Hb := Lib.hid (bytesC_no C c k heq)
        obtain ⟨z, hz⟩ : ∃ z, C k = z := ⟨_, rfl⟩
        rw [hz] at hcell heq' hc
        clear heq hz
        go_wp2
        go_roundw
        case rel => exact ⟨k + 1, by omega, by go_num, by rw [Hb.out]; exact hown, hb⟩
        case measure => simp [intOf]; omega
    · have Hk : Hid (k = 256) := by show k = 256; omega
      go_wp2
      go_ret
      have hown' := hown
      rw [Hk.out] at hown'
      exact ⟨_, rfl, own_mono0 hown' (by omega), ((Below.refl _ _).alloc (Nat.le_refl _) _).trans (hb.mono (by omega))⟩
set_option maxRecDepth 100000 in
theorem refbytes_any (C : Nat → Nat) (hC : ∀ i, i < 256 → C i < 256) (c : Int) (w : World) :
    Calls Try.prog 35 #[.agg (arrC C), .int .i64 c] w fun e w' => ∃ v, e = .returned v ∧ w'.ownsRow w.heap.size 5 1 v (bytesC C c 256).length (vals (bytesC C c 256)) ∧ Below w.heap.size w w' := by
  obtain ⟨i0, hi, hz0, hz1, hz2⟩ := info_parts infoU8
  have h0 : w.heap.size + 1 ≤ (w.alloc (.cells (arrC C) 30)).heap.size := by simp
  have hm := World.ownsRow_made (base := w.heap.size + 1) (e := 5) (size := 1) (w.alloc (.cells (arrC C) 30)) #[] 0 h0 (by decide) rfl
  have hs : (w.alloc (.cells (arrC C) 30)).heap.size = w.heap.size + 1 := by simp
  rw [hs] at hm
  have Hm := Lib.hid hm
  clear hm hs
  go_enter Try.func35, Try.ntmps35
  go_wp2
  go_loopw [5, 6] (fun v i wr => ∃ k : Nat, k ≤ 256 ∧ i = .int .i64 k ∧ wr.ownsRow (w.heap.size + 1) 5 1 v (bytesC C c k).length (vals (bytesC C c k)) ∧ Below (w.heap.size + 1) (w.alloc (.cells (arrC C) 30)) wr) (fun _ i _ => 256 - (intOf i).toNat)
  case atStart => exact ⟨0, by omega, rfl, Hm.out, (Below.refl _ _).alloc h0 _⟩
  case round =>
    obtain ⟨k, hk, rfl, hown, hb⟩ := hrel
    have hsz : w.heap.size + 1 ≤ wr.heap.size := by have := hb.size; simpa using this
    by_cases hlt : k < 256
    · have hcell : wr.cell? ⟨w.heap.size, k, none⟩ = some (.int .u8 (C k)) := (hb.cell (p := ⟨w.heap.size, k, none⟩) (by show w.heap.size < _; omega)).trans (arr_cells w C _ k hlt)
      have hc := hC k hlt
      by_cases heq : (C k : Int) = c
      · have heq' : ((C k : Int) == c) = true := by simp [heq]
        have Hb := Lib.hid (bytesC_yes C c k heq)
        have hl := bytesC_len C c k
        have hA := Lib.hid fun ops rest o a Q hg s x ho hs hx h => app1 (P := Try.prog) (T := 61) Try.underlying61 hi hz0 hz1 hz2 rfl hown (u := .int .u8 k) rfl (by unfold maxLen; omega) (by omega) hsz ops rest o a Q hg s x ho hs hx h
        obtain ⟨z, hz⟩ : ∃ z, C k = z := ⟨_, rfl⟩
        rw [hz] at hcell heq' hc
        clear heq hz
        go_wp2_with (at_builtin; refine hA.out _ _ _ _ _ rfl _ _ rfl rfl rfl ?_; intro v' w1 hown1 hg1)
        have hb1 := app1_below hb hsz hown hg1
        go_roundw
        case rel => exact ⟨k + 1, by omega, by go_num, by rw [Hb.out, ← vals_snoc, List.length_append]; exact hown1, hb1⟩
        case measure => simp [intOf]; omega
      · have heq' : ((C k : Int) == c) = false := by simp [heq]
        have Hb := Lib.hid (bytesC_no C c k heq)
        obtain ⟨z, hz⟩ : ∃ z, C k = z := ⟨_, rfl⟩
        rw [hz] at hcell heq' hc
        clear heq hz
        go_wp2
        go_roundw
        case rel => exact ⟨k + 1, by omega, by go_num, by rw [Hb.out]; exact hown, hb⟩
        case measure => simp [intOf]; omega
    · have Hk : Hid (k = 256) := by show k = 256; omega
      go_wp2
      go_ret
      have hown' := hown
      rw [Hk.out] at hown'
      exact ⟨_, rfl, own_mono0 hown' (by omega), ((Below.refl _ _).alloc (Nat.le_refl _) _).trans (hb.mono (by omega))⟩
end Go.Proofs.Ytmkgipoljbiocaa
/- The table of a net: what it is; how it lies while it is made. -/
namespace Go.Proofs.Ytmkgipoljbiocaa
open Go.RowKit
set_option linter.unusedVariables false

/-! ## What it is. -/
def firstB (ls : List (Nat → Bool)) (c : Nat) : Nat := (bytesC (clsL ls) (c : Int) 256).headD 0
def widN (N : NetS) : Nat := cnt (sigL N.sets) 256
def toL (N : NetS) (x : List Int) (i c : Nat) : List Int := if i = 0 then startL N (firstB N.sets c) else stepL N x (firstB N.sets c)
def putF (f : List (List Int)) (t : List Int) : List (List Int) := if t = [] then f else if findL f t < 0 then f ++ [t] else f
def atF (f : List (List Int)) (t : List Int) : Int := if t = [] then -1 else if findL f t < 0 then (f.length : Int) else findL f t
def innerUp (N : NetS) (most : Nat) (x : List Int) (i : Nat) (f0 : List (List Int)) : Nat → Option (List (List Int) × List Int)
  | 0 => some (f0, [])
  | c + 1 => match innerUp N most x i f0 c with
    | none => none
    | some (f, r) => if most < (putF f (toL N x i c)).length then none else some (putF f (toL N x i c), r ++ [atF f (toL N x i c)])
def outerUp (N : NetS) (most : Nat) : Nat → Option (List (List Int) × List (List Int) × List Int)
  | 0 => some ([[]], [], [])
  | i + 1 => match outerUp N most i with
    | none => none
    | some (f, nx, lb) => match f[i]? with
      | none => some (f, nx, lb)
      | some x => match innerUp N most x i f (widN N) with
        | none => none
        | some (f', r) => some (f', nx ++ [r], lb ++ [tokenL N x])
def ms0 : MS := ⟨zeroC, 0, [], []⟩
def tabR (N : NetS) : Option (List (List Int) × List (List Int) × List Int) → MS × Int × Int
  | none => (ms0, 0, 16)
  | some (f, nx, lb) => (⟨clsL N.sets, (widN N : Int), nx, lb⟩, (f.length : Int), 0)
def buildR (N : NetS) (most : Int) : MS × Int × Int :=
  if netR N = false then (ms0, 0, 3)
  else if most < 1 ∨ 4096 < most then (ms0, 0, 2)
  else tabR N (outerUp N most.toNat (most.toNat + 1))
theorem bytesC_mem' (C : Nat → Nat) (c : Int) (x : Nat) : ∀ n, x ∈ bytesC C c n ↔ x < n ∧ (C x : Int) = c := by
  intro n
  induction n with
  | zero => simp [bytesC]
  | succ n ih =>
    simp only [bytesC]
    split
    · rename_i h
      rw [List.mem_append, ih, List.mem_singleton]
      constructor
      · rintro (⟨h1, h2⟩ | rfl)
        · exact ⟨by omega, h2⟩
        · exact ⟨by omega, h⟩
      · rintro ⟨h1, h2⟩
        by_cases e : x = n
        · exact .inr e
        · exact .inl ⟨by omega, h2⟩
    · rename_i h
      rw [List.append_nil, ih]
      constructor
      · rintro ⟨h1, h2⟩; exact ⟨by omega, h2⟩
      · rintro ⟨h1, h2⟩
        have : x ≠ n := by rintro rfl; exact h h2
        exact ⟨by omega, h2⟩
theorem firstB_lt (ls : List (Nat → Bool)) (c : Nat) (hc : c < cnt (sigL ls) 256) : ∃ t, bytesC (clsL ls) (c : Int) 256 = firstB ls c :: t ∧ firstB ls c < 256 := by
  obtain ⟨a, ha, _, hac⟩ := cls_surj (sigL ls) 256 c hc
  have hm : a ∈ bytesC (clsL ls) (c : Int) 256 := (bytesC_mem' _ _ _ _).2 ⟨ha, by unfold clsL; rw [hac]⟩
  unfold firstB
  cases hb : bytesC (clsL ls) (c : Int) 256 with
  | nil => rw [hb] at hm; simp at hm
  | cons y t =>
    refine ⟨t, rfl, ?_⟩
    have : y ∈ bytesC (clsL ls) (c : Int) 256 := by rw [hb]; exact .head _
    exact ((bytesC_mem' _ _ _ _).1 this).1
theorem toL_len (N : NetS) (x : List Int) (i c : Nat) : (toL N x i c).length ≤ N.sets.length := by
  unfold toL startL stepL withL
  split <;> split
  · exact withUp_len _ _ _ _
  · simp
  · exact withUp_len _ _ _ _
  · simp
def GoodF (N : NetS) (most : Nat) (f : List (List Int)) : Prop := 1 ≤ f.length ∧ f.length ≤ most ∧ ∀ x ∈ f, x.length ≤ N.sets.length
theorem putF_pre (f : List (List Int)) (t : List Int) : (putF f t).length ≤ f.length + 1 ∧ f.length ≤ (putF f t).length ∧ ∀ (k : Nat) x, f[k]? = some x → (putF f t)[k]? = some x := by
  unfold putF
  split
  · exact ⟨by omega, by omega, fun k x h => h⟩
  · split
    · refine ⟨by simp, by simp, fun k x h => ?_⟩
      rw [List.getElem?_append_left (List.getElem?_eq_some_iff.1 h).1]; exact h
    · exact ⟨by omega, by omega, fun k x h => h⟩
theorem putF_mem (f : List (List Int)) (t : List Int) : ∀ x ∈ putF f t, x ∈ f ∨ x = t := by
  unfold putF
  intro x hx
  split at hx
  · exact .inl hx
  · split at hx
    · rcases List.mem_append.1 hx with h | h
      · exact .inl h
      · exact .inr (List.mem_singleton.1 h)
    · exact .inl hx
theorem inner_good {N : NetS} {most : Nat} {x : List Int} {i : Nat} {f0 : List (List Int)} (h0 : GoodF N most f0) : ∀ (c : Nat) {f : List (List Int)} {r : List Int}, innerUp N most x i f0 c = some (f, r) → GoodF N most f ∧ r.length = c ∧ f0.length ≤ f.length ∧ ∀ (k : Nat) y, f0[k]? = some y → f[k]? = some y := by
  intro c
  induction c with
  | zero => intro f r h; simp [innerUp] at h; obtain ⟨rfl, rfl⟩ := h; exact ⟨h0, rfl, by omega, fun _ _ h => h⟩
  | succ c ih =>
    intro f r h
    simp only [innerUp] at h
    split at h
    · cases h
    · rename_i f1 r1 h1
      split at h
      · cases h
      · rename_i hm
        simp only [Option.some.injEq, Prod.mk.injEq] at h
        obtain ⟨rfl, rfl⟩ := h
        obtain ⟨⟨g1, g2, g3⟩, e1, e2, e3⟩ := ih h1
        obtain ⟨p1, p2, p3⟩ := putF_pre f1 (toL N x i c)
        refine ⟨⟨by omega, by omega, fun y hy => ?_⟩, by simp [e1], by omega, fun k y hk => p3 k y (e3 k y hk)⟩
        rcases putF_mem _ _ y hy with h | rfl
        · exact g3 y h
        · exact toL_len _ _ _ _
theorem inner_none {N : NetS} {most : Nat} {x : List Int} {i : Nat} {f0 : List (List Int)} {c : Nat} (h : innerUp N most x i f0 c = none) : ∀ d, innerUp N most x i f0 (c + d) = none := by
  intro d
  induction d with
  | zero => exact h
  | succ d ih => show innerUp N most x i f0 (c + d + 1) = none; simp only [innerUp]; rw [ih]
theorem outer_none {N : NetS} {most c : Nat} (h : outerUp N most c = none) : ∀ d, outerUp N most (c + d) = none := by
  intro d
  induction d with
  | zero => exact h
  | succ d ih => show outerUp N most (c + d + 1) = none; simp only [outerUp]; rw [ih]
theorem outer_end {N : NetS} {most i : Nat} {f nx : List (List Int)} {lb : List Int} (h : outerUp N most i = some (f, nx, lb)) (hi : f.length ≤ i) : ∀ d, outerUp N most (i + d) = some (f, nx, lb) := by
  intro d
  induction d with
  | zero => exact h
  | succ d ih =>
    show outerUp N most (i + d + 1) = _
    simp only [outerUp]
    rw [ih]
    simp only
    rw [List.getElem?_eq_none (by omega)]
theorem outer_step {N : NetS} {most i : Nat} {f nx : List (List Int)} {lb : List Int} {x : List Int} (h : outerUp N most i = some (f, nx, lb)) (hx : f[i]? = some x) {f' : List (List Int)} {r : List Int} (hin : innerUp N most x i f (widN N) = some (f', r)) : outerUp N most (i + 1) = some (f', nx ++ [r], lb ++ [tokenL N x]) := by
  simp only [outerUp]
  rw [h]
  simp only
  rw [hx]
  simp only
  rw [hin]
theorem outer_fail {N : NetS} {most i : Nat} {f nx : List (List Int)} {lb : List Int} {x : List Int} (h : outerUp N most i = some (f, nx, lb)) (hx : f[i]? = some x) {c : Nat} (hc : c ≤ widN N) (hin : innerUp N most x i f c = none) (him : i ≤ most) : outerUp N most (most + 1) = none := by
  have h1 : innerUp N most x i f (widN N) = none := by
    have := inner_none hin (widN N - c)
    rwa [show c + (widN N - c) = widN N by omega] at this
  have h2 : outerUp N most (i + 1) = none := by
    simp only [outerUp]
    rw [h]
    simp only
    rw [hx]
    simp only
    rw [h1]
  have := outer_none h2 (most - i)
  rwa [show i + 1 + (most - i) = most + 1 by omega] at this
/-! ## How it lies. -/
def nilRow : RowD := ⟨3, 1, .slice none 0 0, 0, []⟩
def base4 (D : Df) (fv : Value) (os nx : List (Sl Int)) (lb : List Int) (rv : Value) (r : List Int) : List RowD :=
  [⟨23, 1, fv, os.length, os.flatMap seC⟩, ⟨23, 1, .slice D.na D.nl D.nc, nx.length, nx.flatMap seC⟩, ⟨3, 1, .slice D.la D.ll D.lc, lb.length, lb.flatMap intC⟩, ⟨3, 1, rv, r.length, r.flatMap intC⟩]
/-- A machine while it is made: its box, its rows, those of the found lists, the row under way; all apart. -/
structure DB (B X : Nat) (w : World) (D : Df) (fv : Value) (os nx : List (Sl Int)) (lb : List Int) (rv : Value) (r : List Int) (rest : List RowD) : Prop where
  box : DfaAt w X D
  rows : RowsD B w (base4 D fv os nx lb rv r ++ rest)
  memf : ∀ o ∈ os, inn o ∈ rest ∧ o.l = o.xs.length
  memn : ∀ o ∈ nx, inn o ∈ rest ∧ o.l = o.xs.length
  lt : X < B
  le : B ≤ w.heap.size
theorem DB.below {B X : Nat} {w w' : World} {D : Df} {fv : Value} {os nx : List (Sl Int)} {lb : List Int} {rv : Value} {r : List Int} {rest : List RowD} (h : DB B X w D fv os nx lb rv r rest) (hb : Below w.heap.size w w') : DB B X w' D fv os nx lb rv r rest :=
  ⟨h.box.below hb (by have := h.lt; have := h.le; omega), h.rows.below hb, h.memf, h.memn, h.lt, by have := hb.size; have := h.le; omega⟩
theorem DB.kept {B X : Nat} {w w' : World} {D : Df} {fv : Value} {os nx : List (Sl Int)} {lb : List Int} {rv : Value} {r : List Int} {rest : List RowD} (h : DB B X w D fv os nx lb rv r rest) (hk : ∀ k, k < w.heap.size → X ≤ k → w'.heap[k]? = w.heap[k]?) (hs : w.heap.size ≤ w'.heap.size) : DB B X w' D fv os nx lb rv r rest :=
  ⟨(hk X h.box.lt (Nat.le_refl _)).trans h.box, h.rows.kept fun r hr k e => by have := (h.rows.own r hr).lt k e; have := h.lt; exact hk k (by omega) (by omega), h.memf, h.memn, h.lt, by have := h.le; omega⟩
theorem DB.add {B X : Nat} {w w' : World} {D : Df} {fv : Value} {os nx : List (Sl Int)} {lb : List Int} {rv : Value} {r : List Int} {rest : List RowD} (h : DB B X w D fv os nx lb rv r rest) (hb : Below w.heap.size w w') {q : RowD} (hr : w'.ownsRow w.heap.size q.e q.k q.v q.n q.xs) : DB B X w' D fv os nx lb rv r (rest ++ [q]) := by
  have h' := h.below hb
  refine ⟨h'.box, ?_, fun o ho => ⟨List.mem_append_left _ (h.memf o ho).1, (h.memf o ho).2⟩, fun o ho => ⟨List.mem_append_left _ (h.memn o ho).1, (h.memn o ho).2⟩, h.lt, h'.le⟩
  have := h.rows.add hb hr h.le
  rwa [List.append_assoc] at this
theorem b4 {D : Df} {fv : Value} {os nx : List (Sl Int)} {lb : List Int} {rv : Value} {r : List Int} {rest : List RowD} : (base4 D fv os nx lb rv r ++ rest)[0]? = some ⟨23, 1, fv, os.length, os.flatMap seC⟩ ∧ (base4 D fv os nx lb rv r ++ rest)[1]? = some ⟨23, 1, .slice D.na D.nl D.nc, nx.length, nx.flatMap seC⟩ ∧
    (base4 D fv os nx lb rv r ++ rest)[2]? = some ⟨3, 1, .slice D.la D.ll D.lc, lb.length, lb.flatMap intC⟩ ∧ (base4 D fv os nx lb rv r ++ rest)[3]? = some ⟨3, 1, rv, r.length, r.flatMap intC⟩ := ⟨rfl, rfl, rfl, rfl⟩
theorem DB.own {B X : Nat} {w : World} {D : Df} {fv : Value} {os nx : List (Sl Int)} {lb : List Int} {rv : Value} {r : List Int} {rest : List RowD} (h : DB B X w D fv os nx lb rv r rest) :
    w.ownsRow B 23 1 fv os.length (os.flatMap seC) ∧ w.ownsRow B 23 1 (.slice D.na D.nl D.nc) nx.length (nx.flatMap seC) ∧ w.ownsRow B 3 1 (.slice D.la D.ll D.lc) lb.length (lb.flatMap intC) ∧ w.ownsRow B 3 1 rv r.length (r.flatMap intC) :=
  ⟨h.rows.own _ (List.mem_of_getElem? b4.1), h.rows.own _ (List.mem_of_getElem? b4.2.1), h.rows.own _ (List.mem_of_getElem? b4.2.2.1), h.rows.own _ (List.mem_of_getElem? b4.2.2.2)⟩
theorem DB.nrow {B X : Nat} {w : World} {D : Df} {fa : Option Addr} {fc : Nat} {os nx : List (Sl Int)} {lb : List Int} {rv : Value} {r : List Int} {rest : List RowD} (h : DB B X w D (.slice fa os.length fc) os nx lb rv r rest) : NRow intC 1 w fa os.length (os.map Sl.xs) := by
  refine ⟨os, own_row seC_len h.own.1, fun o ho => ?_, rfl⟩
  obtain ⟨hm, hl⟩ := h.memf o ho
  have h5 : w.ownsRow B 3 1 (.slice o.a o.l o.c) o.l (o.xs.flatMap intC) := h.rows.own _ (List.mem_append_right _ hm)
  rw [hl] at h5 ⊢
  exact own_row intC_len h5
theorem own_n {w : World} {base : Nat} {e : TypeId} {k : Nat} {a : Option Addr} {l c n : Nat} {xs : List Value} (h : w.ownsRow base e k (.slice a l c) n xs) : l = n := by
  obtain ⟨A, c', e, _, _⟩ := own_form h
  simp only [Value.slice.injEq] at e
  exact e.2.1
theorem DB.mat {B X : Nat} {w : World} {D : Df} {fv : Value} {os nx : List (Sl Int)} {lb : List Int} {rv : Value} {r : List Int} {rest : List RowD} (h : DB B X w D fv os nx lb rv r rest) : MAt w D ⟨D.cl, D.wd, nx.map Sl.xs, lb⟩ := by
  obtain ⟨_, h1, h2, _⟩ := h.own
  have e1 := own_n h1
  have e2 := own_n h2
  rw [e1] at h1
  rw [e2] at h2
  refine ⟨rfl, rfl, ?_, ?_⟩
  · rw [e1]
    refine ⟨nx, own_row seC_len h1, fun o ho => ?_, rfl⟩
    obtain ⟨hm, hl⟩ := h.memn o ho
    have h5 : w.ownsRow B 3 1 (.slice o.a o.l o.c) o.l (o.xs.flatMap intC) := h.rows.own _ (List.mem_append_right _ hm)
    rw [hl] at h5 ⊢
    exact own_row intC_len h5
  · rw [e2]; exact own_row intC_len h2
/-- The found lists grow. -/
theorem DB.put_f {B X : Nat} {w wa w1 : World} {D : Df} {fv : Value} {os nx : List (Sl Int)} {lb : List Int} {rv : Value} {r : List Int} {rest : List RowD} (h : DB B X w D fv os nx lb rv r rest) (hb : Below w.heap.size w wa) (hg : wa.grownBy w1 fv.ownBlock) {v : Value} {z : Sl Int}
    (ho : w1.ownsRow B 23 1 v (os.length + 1) ((os ++ [z]).flatMap seC)) (hv : v.ownBlock = fv.ownBlock ∨ ∃ b, v.ownBlock = some b ∧ w.heap.size ≤ b) (hz : inn z ∈ rest ∧ z.l = z.xs.length) : DB B X w1 D v (os ++ [z]) nx lb rv r rest := by
  have h1 := h.rows.grow (r' := ⟨23, 1, v, os.length + 1, (os ++ [z]).flatMap seC⟩) hb b4.1 hg ho hv
  have hX : X < w.heap.size := by have := h.lt; have := h.le; omega
  have hxb : w1.heap[X]? = w.heap[X]? := (hg.block X (by have := hb.size; omega) (fun e => by have := (h.own.1.lt X e.symm).1; have := h.lt; omega)).trans (hb.block X hX)
  refine ⟨hxb.trans h.box, ?_, fun o ho => ?_, h.memn, h.lt, by have := hb.size; have := hg.size; have := h.le; omega⟩
  · have e : (base4 D fv os nx lb rv r ++ rest).set 0 ⟨23, 1, v, os.length + 1, (os ++ [z]).flatMap seC⟩ = base4 D v (os ++ [z]) nx lb rv r ++ rest := by simp [base4]
    rw [e] at h1; exact h1
  · rcases List.mem_append.1 ho with ho | ho
    · exact h.memf o ho
    · rw [List.mem_singleton] at ho; subst ho; exact hz
/-- The row under way grows. -/
theorem DB.put_c {B X : Nat} {w wa w1 : World} {D : Df} {fv : Value} {os nx : List (Sl Int)} {lb : List Int} {rv : Value} {r : List Int} {rest : List RowD} (h : DB B X w D fv os nx lb rv r rest) (hb : Below w.heap.size w wa) (hg : wa.grownBy w1 rv.ownBlock) {v : Value} {z : Int}
    (ho : w1.ownsRow B 3 1 v (r.length + 1) ((r ++ [z]).flatMap intC)) (hv : v.ownBlock = rv.ownBlock ∨ ∃ b, v.ownBlock = some b ∧ w.heap.size ≤ b) : DB B X w1 D fv os nx lb v (r ++ [z]) rest := by
  have h1 := h.rows.grow (r' := ⟨3, 1, v, r.length + 1, (r ++ [z]).flatMap intC⟩) hb b4.2.2.2 hg ho hv
  have hX : X < w.heap.size := by have := h.lt; have := h.le; omega
  have hxb : w1.heap[X]? = w.heap[X]? := (hg.block X (by have := hb.size; omega) (fun e => by have := (h.own.2.2.2.lt X e.symm).1; have := h.lt; omega)).trans (hb.block X hX)
  refine ⟨hxb.trans h.box, ?_, h.memf, h.memn, h.lt, by have := hb.size; have := hg.size; have := h.le; omega⟩
  have e : (base4 D fv os nx lb rv r ++ rest).set 3 ⟨3, 1, v, r.length + 1, (r ++ [z]).flatMap intC⟩ = base4 D fv os nx lb v (r ++ [z]) ++ rest := by simp [base4]
  rw [e] at h1; exact h1
theorem own_none (w : World) (B : Nat) (e : TypeId) (k : Nat) : w.ownsRow B e k (.slice none 0 0) 0 [] := World.ownsRow_nil _ _ _ _
/-- A row takes the place of one that is nil. -/
theorem RowsD.fresh {B : Nat} {w w' : World} {rs : List RowD} (h : RowsD B w rs) (hb : Below w.heap.size w w') {i : Nat} {z r : RowD} (hi : rs[i]? = some z) (hr : w'.ownsRow w.heap.size r.e r.k r.v r.n r.xs) (hB : B ≤ w.heap.size) : RowsD B w' (rs.set i r) := by
  have hil : i < rs.length := (List.getElem?_eq_some_iff.1 hi).1
  have hlt : ∀ s ∈ rs, ∀ k, s.v.ownBlock = some k → k < w.heap.size := fun s hs k hk => ((h.own s hs).lt k hk).2
  have hge : ∀ k, r.v.ownBlock = some k → w.heap.size ≤ k := fun k hk => (hr.lt k hk).1
  have h' := h.below hb
  have cas : ∀ (j : Nat) u, (rs.set i r)[j]? = some u → (rs[j]? = some u ∧ i ≠ j) ∨ (i = j ∧ u = r) := fun j u hu => by
    rw [List.getElem?_set] at hu
    by_cases hij : i = j
    · subst hij
      rw [if_pos rfl, if_pos hil] at hu
      exact .inr ⟨rfl, (Option.some.inj hu).symm⟩
    · rw [if_neg hij] at hu; exact .inl ⟨hu, hij⟩
  refine ⟨fun s hs => ?_, fun a b s t ha hb2 hne k hk => ?_⟩
  · obtain ⟨j, hj⟩ := List.getElem?_of_mem hs
    rcases cas j s hj with ⟨h1, _⟩ | ⟨_, rfl⟩
    · exact h'.own s (List.mem_of_getElem? h1)
    · exact own_mono hr hB
  · rcases cas a s ha with ⟨ha1, ha2⟩ | ⟨ha1, hs⟩
    · rcases cas b t hb2 with ⟨hb3, _⟩ | ⟨hb3, ht⟩
      · exact h.apart a b s t ha1 hb3 hne k hk
      · intro e
        have h1 := hlt s (List.mem_of_getElem? ha1) k hk
        have h2 := hge k (by rw [← ht]; exact e)
        omega
    · rcases cas b t hb2 with ⟨hb3, _⟩ | ⟨hb3, ht⟩
      · intro e
        have h1 := hlt t (List.mem_of_getElem? hb3) k e
        have h2 := hge k (by rw [← hs]; exact hk)
        omega
      · omega
/-- A row goes to the end; a nil one stands in its place. -/
theorem RowsD.swap {B : Nat} {w : World} {rs : List RowD} (h : RowsD B w rs) {i : Nat} {z r : RowD} (hi : rs[i]? = some r) (hz : z.v.ownBlock = none) (hz2 : z.at_ B w) : RowsD B w (rs.set i z ++ [r]) := by
  have hil : i < rs.length := (List.getElem?_eq_some_iff.1 hi).1
  have cas : ∀ (j : Nat) u, (rs.set i z ++ [r])[j]? = some u → u = z ∨ (∃ j', rs[j']? = some u ∧ ((j' = j ∧ j ≠ i ∧ j < rs.length) ∨ (j' = i ∧ j = rs.length))) := fun j u hu => by
    by_cases hj : j < rs.length
    · rw [List.getElem?_append_left (by simpa using hj), List.getElem?_set] at hu
      by_cases hij : i = j
      · subst hij
        rw [if_pos rfl, if_pos hil] at hu
        exact .inl (Option.some.inj hu).symm
      · rw [if_neg hij] at hu; exact .inr ⟨j, hu, .inl ⟨rfl, fun e => hij e.symm, hj⟩⟩
    · rw [List.getElem?_append_right (by simp; omega)] at hu
      have h0 := (List.getElem?_eq_some_iff.1 hu).1
      simp at h0
      have : j - (rs.set i z).length = 0 := by simp; omega
      rw [this] at hu
      have : u = r := by simpa using hu.symm
      subst this
      exact .inr ⟨i, hi, .inr ⟨rfl, by omega⟩⟩
  refine ⟨fun s hs => ?_, fun a b s t ha hb2 hne k hk => ?_⟩
  · obtain ⟨j, hj⟩ := List.getElem?_of_mem hs
    rcases cas j s hj with rfl | ⟨j', h1, _⟩
    · exact hz2
    · exact h.own s (List.mem_of_getElem? h1)
  · rcases cas a s ha with rfl | ⟨a', ha', ha2⟩
    · rw [hz] at hk; cases hk
    · rcases cas b t hb2 with rfl | ⟨b', hb', hb3⟩
      · rw [hz]; intro e; cases e
      · exact h.apart a' b' s t ha' hb' (by omega) k hk
theorem DB.new_c {B X : Nat} {w w' : World} {D : Df} {fv : Value} {os nx : List (Sl Int)} {lb : List Int} {rv : Value} {r : List Int} {rest : List RowD} (h : DB B X w D fv os nx lb rv r rest) (hb : Below w.heap.size w w') {v : Value} (ho : w'.ownsRow w.heap.size 3 1 v 0 []) : DB B X w' D fv os nx lb v [] rest := by
  have h1 := h.rows.fresh (r := ⟨3, 1, v, 0, []⟩) hb b4.2.2.2 ho h.le
  have h' := h.below hb
  refine ⟨h'.box, ?_, h.memf, h.memn, h.lt, h'.le⟩
  have e : (base4 D fv os nx lb rv r ++ rest).set 3 ⟨3, 1, v, 0, []⟩ = base4 D fv os nx lb v [] ++ rest := by simp [base4]
  rw [e] at h1; exact h1
theorem DB.free_c {B X : Nat} {w : World} {D : Df} {fv : Value} {os nx : List (Sl Int)} {lb : List Int} {ca : Option Addr} {cc : Nat} {r : List Int} {rest : List RowD} (h : DB B X w D fv os nx lb (.slice ca r.length cc) r rest) : DB B X w D fv os nx lb (.slice none 0 0) [] (rest ++ [inn ⟨ca, r.length, cc, r⟩]) := by
  have h1 := h.rows.swap (z := nilRow) b4.2.2.2 rfl (own_none _ _ _ _)
  refine ⟨h.box, ?_, fun o ho => ⟨List.mem_append_left _ (h.memf o ho).1, (h.memf o ho).2⟩, fun o ho => ⟨List.mem_append_left _ (h.memn o ho).1, (h.memn o ho).2⟩, h.lt, h.le⟩
  have e : (base4 D fv os nx lb (.slice ca r.length cc) r ++ rest).set 3 nilRow = base4 D fv os nx lb (.slice none 0 0) [] ++ rest := by simp [base4, nilRow]
  rw [e, List.append_assoc] at h1; exact h1
/-- Rows that are apart, one of which has grown and is put into a cell of the box. -/
theorem rows_put' {B X : Nat} {w wa w1 : World} {rs : List RowD} {i j : Nat} {r r' : RowD} {cs : Array Value} {t : TypeId} (h : RowsD B w rs) (hX : X < B) (hB : B ≤ w.heap.size) (hbox : w.heap[X]? = some (.cells cs t (0, 0))) (hb : Below w.heap.size w wa)
    (hi : rs[i]? = some r) (hg : wa.grownBy w1 r.v.ownBlock) (hr' : r'.at_ B w1) (hv : r'.v.ownBlock = r.v.ownBlock ∨ ∃ b, r'.v.ownBlock = some b ∧ w.heap.size ≤ b) :
    RowsD B (w1.setCell ⟨X, j, none⟩ r'.v) (rs.set i r') ∧ (w1.setCell ⟨X, j, none⟩ r'.v).heap[X]? = some (.cells (cs.setIfInBounds j r'.v) t (0, 0)) ∧ B ≤ (w1.setCell ⟨X, j, none⟩ r'.v).heap.size := by
  have h1 := h.grow hb hi hg hr' hv
  have hxn : ∀ k, r.v.ownBlock = some k → k ≠ X := fun k hk => by have := ((h.own r (List.mem_of_getElem? hi)).lt k hk).1; omega
  have h2 : wa.heap[X]? = w.heap[X]? := hb.block X (by omega)
  have h3 : w1.heap[X]? = wa.heap[X]? := hg.block X (by have := hb.size; omega) (fun e => hxn X e.symm rfl)
  have hx1 : w1.heap[X]? = some (.cells cs t (0, 0)) := h3.trans (h2.trans hbox)
  have hs : w.heap.size ≤ w1.heap.size := by have := hb.size; have := hg.size; omega
  refine ⟨h1.kept fun s hs k hk => heap_setCell_other _ _ _ _ ?_, heap_setCell_same w1 X j cs t r'.v hx1, by simp; omega⟩
  have := ((h1.own s hs).lt k hk).1
  show k ≠ X
  omega
theorem DB.put_n {B X : Nat} {w wa w1 : World} {D : Df} {fv : Value} {os nx : List (Sl Int)} {lb : List Int} {rv : Value} {r : List Int} {rest : List RowD} (h : DB B X w D fv os nx lb rv r rest) (hb : Below w.heap.size w wa) (hg : wa.grownBy w1 (Value.slice D.na D.nl D.nc).ownBlock) {a : Option Addr} {n c : Nat} {z : Sl Int}
    (ho : w1.ownsRow B 23 1 (.slice a n c) (nx.length + 1) ((nx ++ [z]).flatMap seC)) (hv : (Value.slice a n c).ownBlock = (Value.slice D.na D.nl D.nc).ownBlock ∨ ∃ b, (Value.slice a n c).ownBlock = some b ∧ w.heap.size ≤ b) (hz : inn z ∈ rest ∧ z.l = z.xs.length) :
    DB B X (w1.setCell ⟨X, 257, none⟩ (.slice a n c)) { D with na := a, nl := n, nc := c } fv os (nx ++ [z]) lb rv r rest := by
  obtain ⟨h1, h2, h3⟩ := rows_put' (j := 257) (r' := ⟨23, 1, .slice a n c, nx.length + 1, (nx ++ [z]).flatMap seC⟩) h.rows h.lt h.le h.box hb b4.2.1 hg ho hv
  refine ⟨?_, ?_, h.memf, fun o ho => ?_, h.lt, h3⟩
  · rw [dfA_setnx] at h2; exact h2
  · have e : (base4 D fv os nx lb rv r ++ rest).set 1 ⟨23, 1, .slice a n c, nx.length + 1, (nx ++ [z]).flatMap seC⟩ = base4 { D with na := a, nl := n, nc := c } fv os (nx ++ [z]) lb rv r ++ rest := by simp [base4]
    rw [e] at h1; exact h1
  · rcases List.mem_append.1 ho with ho | ho
    · exact h.memn o ho
    · rw [List.mem_singleton] at ho; subst ho; exact hz
theorem DB.put_l {B X : Nat} {w wa w1 : World} {D : Df} {fv : Value} {os nx : List (Sl Int)} {lb : List Int} {rv : Value} {r : List Int} {rest : List RowD} (h : DB B X w D fv os nx lb rv r rest) (hb : Below w.heap.size w wa) (hg : wa.grownBy w1 (Value.slice D.la D.ll D.lc).ownBlock) {a : Option Addr} {n c : Nat} {z : Int}
    (ho : w1.ownsRow B 3 1 (.slice a n c) (lb.length + 1) ((lb ++ [z]).flatMap intC)) (hv : (Value.slice a n c).ownBlock = (Value.slice D.la D.ll D.lc).ownBlock ∨ ∃ b, (Value.slice a n c).ownBlock = some b ∧ w.heap.size ≤ b) :
    DB B X (w1.setCell ⟨X, 258, none⟩ (.slice a n c)) { D with la := a, ll := n, lc := c } fv os nx (lb ++ [z]) rv r rest := by
  obtain ⟨h1, h2, h3⟩ := rows_put' (j := 258) (r' := ⟨3, 1, .slice a n c, lb.length + 1, (lb ++ [z]).flatMap intC⟩) h.rows h.lt h.le h.box hb b4.2.2.1 hg ho hv
  refine ⟨?_, ?_, h.memf, h.memn, h.lt, h3⟩
  · rw [dfA_setlb] at h2; exact h2
  · have e : (base4 D fv os nx lb rv r ++ rest).set 2 ⟨3, 1, .slice a n c, lb.length + 1, (lb ++ [z]).flatMap intC⟩ = base4 { D with la := a, ll := n, lc := c } fv os nx (lb ++ [z]) rv r ++ rest := by simp [base4]
    rw [e] at h1; exact h1
end Go.Proofs.Ytmkgipoljbiocaa
/- The reader: a text, and Read. -/
namespace Go.Proofs.Ytmkgipoljbiocaa
open Go.RowKit Go.PlainAid
set_option linter.unusedVariables false
set_option linter.unusedSimpArgs false

def altP (ps : List (List Rx)) : List Rx := if ps.length = 0 then [⟨1, emptyS⟩] else behUp 4 ps ps.length
/-- The branches behind the first one. -/
def altsF (tx : Nat → Option (List Rx × Nat)) (s : ByteArray) : Nat → List (List Rx) → Nat → Option (List Rx × Nat)
  | 0, _, _ => none
  | m + 1, ps, k =>
    if k < s.size ∧ byteAt s k = 124 then
      match branchF tx s (s.size + 2) [] (k + 1) with
      | none => none
      | some (l, nx) => if ps.length ≤ 1000 ∧ nx ≤ s.size ∧ k < nx then altsF tx s m (ps ++ [l]) nx else none
    else if tot ps + ps.length ≤ 2000 then some (altP ps, k) else none
def textF (s : ByteArray) : Nat → Nat → Option (List Rx × Nat)
  | 0, _ => none
  | f + 1, k =>
    if k ≤ s.size then
      match branchF (textF s f) s (s.size + 2) [] k with
      | none => none
      | some (l, nx) => if nx ≤ s.size then altsF (textF s f) s (s.size + 2) [l] nx else none
    else none
theorem RB.lit {w w2 : World} {z : Rw} (hb : Below w.heap.size w w2) (hz : w2.ownsRow w.heap.size 88 5 (.slice z.a z.l z.c) z.l (z.rs.flatMap rxC)) (hl : z.l = z.rs.length) (cs : Array Value) (hcs : cs = #[.slice z.a z.l z.c]) :
    RB w.heap.size (w2.alloc (.cells cs 43)) (.slice (some ⟨w2.heap.size, 0, none⟩) 1 1) [z] [⟨88, 5, .slice z.a z.l z.c, z.l, z.rs.flatMap rxC⟩] := by
  have h0 : RB w.heap.size w (.slice none 0 0) [] [] := RB.start (own_none _ _ _ _) (Nat.le_refl _)
  have h1 := h0.add hb (q := ⟨88, 5, .slice z.a z.l z.c, z.l, z.rs.flatMap rxC⟩) hz
  have hb2 : Below w2.heap.size w2 (w2.alloc (.cells cs 43)) := (Below.refl _ _).alloc (Nat.le_refl _) _
  have ho := own_lit slC_len w2 w2.heap.size 43 (Nat.le_refl _) z cs hcs
  have h2 := h1.rows.fresh (i := 0) (r := ⟨43, 1, .slice (some ⟨w2.heap.size, 0, none⟩) 1 1, 1, [z].flatMap slC⟩) hb2 rfl ho hb.size
  refine ⟨h2, fun o ho => ?_, by simp; have := hb.size; omega⟩
  rw [List.mem_singleton] at ho
  subst ho
  exact ⟨.head _, hl⟩
set_option maxHeartbeats 4000000 in
theorem text_step (s : ByteArray) (hs : s.size ≤ 1000) (f : Nat) (ih : ∀ (k0 : Nat) (w : World) (l : List Rx) (nx : Nat), textF s f k0 = some (l, nx) → Calls Try.prog 52 #[.string s, .int .i64 (k0 : Int)] w (Rd w l nx))
    (k0 : Nat) (w : World) (l : List Rx) (nx : Nat) (h : textF s (f + 1) k0 = some (l, nx)) :
    Calls Try.prog 52 #[.string s, .int .i64 (k0 : Int)] w (Rd w l nx) := by
    have gb := get_bt s
    have HBA := Lib.hid fun (k : Nat) (w : World) (l : List Rx) (nx : Nat) (hk : k ≤ s.size) h => branch_any s (textF s f) hs (fun k w l nx h => ih k w l nx h) (s.size + 2) k w l nx hk h
    simp only [textF] at h
    split at h
    case isFalse => cases h
    case isTrue hk0 =>
      cases hb0 : branchF (textF s f) s (s.size + 2) [] k0 with
      | none => rw [hb0] at h; cases h
      | some p =>
        obtain ⟨l1, n1⟩ := p
        rw [hb0] at h
        simp only at h
        split at h
        case isFalse => cases h
        case isTrue hn1 =>
          have HH := Lib.hid h
          have HB := Lib.hid (HBA.out k0 w l1 n1 hk0 hb0)
          clear h hb0
          obtain ⟨tx, htx⟩ : ∃ tx, textF s f = tx := ⟨_, rfl⟩
          rw [htx] at HH HBA
          clear htx
          go_enter Try.func52, Try.ntmps52
          go_wp2_with fail
          refine HB.out.mono ?_
          rintro e w2 ⟨A, c, rfl, ho, hb⟩
          have HRB0 := Lib.hid (RB.lit (z := ⟨A, l1.length, c, l1⟩) hb ho rfl #[.slice A l1.length c] rfl)
          have HBL := Lib.hid (hb.alloc hb.size (.cells #[.slice A l1.length c] 43))
          clear ho hb HB
          go_wp2_with fail
          go_loopg [7, 8, 9, 10] (s.size - n1) (fun gk lv av bv pv wr => ∃ (k m : Nat) (os : List Rw) (rest : List RowD), k ≤ s.size ∧ gk = s.size - k ∧ av = .int .i64 (k : Int) ∧ bv = .bool true ∧ RB w.heap.size wr pv os rest ∧ altsF tx s m (os.map Rw.rs) k = some (l, nx) ∧ Below w.heap.size w wr)
          case atStart => exact ⟨n1, s.size + 2, [⟨A, l1.length, c, l1⟩], _, hn1, rfl, rfl, rfl, HRB0.out, HH.out, HBL.out⟩
          case round =>
            obtain ⟨k, m, os, rest, hk, hgk, rfl, rfl, hrb, hbr, hbw⟩ := hrel
            have HRB := Lib.hid hrb
            have HBW := Lib.hid hbw
            obtain ⟨pa, pc, rfl, hp1, hp2⟩ := own_form hrb.own
            have hgl : w.heap.size ≤ wr.heap.size := hrb.le
            clear hrb hbw
            cases m with
            | zero => cases hbr
            | succ m =>
              simp only [altsF] at hbr
              by_cases hgo : k < s.size ∧ byteAt s k = 124
              case neg =>
                rw [if_neg hgo] at hbr
                split at hbr
                case isFalse => cases hbr
                case isTrue htot =>
                  simp only [Option.some.injEq, Prod.mk.injEq] at hbr
                  obtain ⟨hl, rfl⟩ := hbr
                  have HCA : Hid (Calls Try.prog 65 #[.slice pa os.length pc] wr (Gives wr l)) := Lib.hid (by
                    have h1 := refalt_any wr pa os.length pc os HRB.out.rrow (by rw [List.length_map] at htot; exact htot)
                    have h2 : altR os os.length = l := by rw [← hl]; unfold altR altP; rw [List.length_map]
                    rw [h2] at h1; exact h1)
                  clear htot hl
                  have z0 : (0 : Int) ≤ (k : Int) := by omega
                  by_cases hks : k < s.size
                  case neg =>
                    have z1 : ¬ (k : Int) < (s.size : Int) := by omega
                    clear hgo hks
                    go_wp2_with fail
                    refine HCA.out.mono ?_
                    rintro e w3 ⟨v, rfl, ho, hb⟩
                    obtain ⟨A3, c3, rfl, _, _⟩ := own_form ho
                    have HO := Lib.hid (own_mono ho HBW.out.size)
                    have HB3 := Lib.hid (HBW.out.trans (hb.mono HBW.out.size))
                    clear ho hb
                    go_wp2
                    go_ret3
                    exact ⟨A3, c3, rfl, HO.out, HB3.out⟩
                  case pos =>
                    have z1 : (k : Int) < (s.size : Int) := by omega
                    have hba := bt_at s k hks
                    have t1 : (bt s k == 124) = false := by
                      rw [beq_eq_false_iff_ne, hba]
                      intro e
                      exact hgo ⟨hks, by omega⟩
                    clear hgo hba
                    go_wp2_with fail
                    refine HCA.out.mono ?_
                    rintro e w3 ⟨v, rfl, ho, hb⟩
                    obtain ⟨A3, c3, rfl, _, _⟩ := own_form ho
                    have HO := Lib.hid (own_mono ho HBW.out.size)
                    have HB3 := Lib.hid (HBW.out.trans (hb.mono HBW.out.size))
                    clear ho hb
                    go_wp2
                    go_ret3
                    exact ⟨A3, c3, rfl, HO.out, HB3.out⟩
              case pos =>
                rw [if_pos hgo] at hbr
                cases hat : branchF tx s (s.size + 2) [] (k + 1) with
                | none => rw [hat] at hbr; cases hbr
                | some p =>
                  obtain ⟨l2, n2⟩ := p
                  rw [hat] at hbr
                  simp only at hbr
                  split at hbr
                  case isFalse => cases hbr
                  case isTrue hc =>
                    obtain ⟨hos, hn2, hkn⟩ := hc
                    rw [List.length_map] at hos
                    have HA := Lib.hid (HBA.out (k + 1) wr l2 n2 (by omega) hat)
                    have HBR := Lib.hid hbr
                    have z0 : (0 : Int) ≤ (k : Int) := by omega
                    have z1 : (k : Int) < (s.size : Int) := by omega
                    have hba := bt_at s k hgo.1
                    have t1 : (bt s k == 124) = true := by rw [beq_iff_eq, hba, hgo.2]; rfl
                    obtain ⟨ol, hol⟩ : ∃ x, os.length = x := ⟨_, rfl⟩
                    have HOL := Lib.hid hol
                    rw [hol] at hos ⊢
                    clear hgo hba hbr hat hol
                    go_wp2_with fail
                    refine HA.out.mono ?_
                    rintro e w3 ⟨A3, c3, rfl, ho, hb⟩
                    have HBQ := Lib.hid hb
                    have HD := Lib.hid (HRB.out.add hb (q := ⟨88, 5, .slice A3 l2.length c3, l2.length, l2.flatMap rxC⟩) ho)
                    have hw3 : wr.heap.size ≤ w3.heap.size := hb.size
                    have hle : w.heap.size ≤ w3.heap.size := by omega
                    have HBW2 := Lib.hid (HBW.out.trans (hb.mono hgl))
                    have HOP : Hid (w3.ownsRow w.heap.size 43 1 (.slice pa ol pc) ol (os.flatMap slC)) := Lib.hid (by rw [← HOL.out]; exact HD.out.own)
                    have HAP := Lib.hid (app_rw HOP.out ⟨A3, l2.length, c3, l2⟩ (by omega) hle w3.heap.size rfl)
                    clear ho hb
                    go_wp2_with (at_builtin; refine HAP.out _ _ _ _ _ rfl _ _ rfl rfl rfl ?_; intro gg cap w5 hownB hgrow hat; have HOB := Lib.hid hownB; have HGB := Lib.hid hgrow; have HATT := Lib.hid hat; clear hownB hgrow hat)
                    have HDN := Lib.hid (HD.out.put ((Below.refl w3.heap.size w3).alloc (Nat.le_refl _) (.cells #[.slice A3 l2.length c3] 43)) (by rw [HOL.out]; exact HGB.out) (v := .slice (some ⟨gg, 0, none⟩) (ol + 1) cap) (z := ⟨A3, l2.length, c3, l2⟩) (by rw [HOL.out]; exact HOB.out) (by rw [HOL.out]; exact row_new HATT.out (by omega) rfl) ⟨List.mem_append_right _ (.head _), rfl⟩)
                    have HBN : Hid (Below w.heap.size w w5) := Lib.hid (below_grown (HBW2.out.alloc hle _) (by simp; omega) HGB.out (fun q hq => (own_ge HOP.out hq).1))
                    go_roundg (s.size - n2)
                    case measure => omega
                    case rel => exact ⟨n2, m, os ++ [⟨A3, l2.length, c3, l2⟩], _, hn2, rfl, rfl, rfl, HDN.out, by rw [List.map_append]; exact HBR.out, HBN.out⟩
theorem text_all (s : ByteArray) (hs : s.size ≤ 1000) : ∀ (f k0 : Nat) (w : World) (l : List Rx) (nx : Nat), textF s f k0 = some (l, nx) →
    Calls Try.prog 52 #[.string s, .int .i64 (k0 : Int)] w (Rd w l nx) := by
  intro f
  induction f with
  | zero => intro k0 w l nx h; cases h
  | succ f ih => exact text_step s hs f ih
end Go.Proofs.Ytmkgipoljbiocaa
