/- The notes among pieces: the program's, and the document's. -/
import Derived.Test.YtdffilenphglgaaWordsR
namespace Go.Proofs.Ytdffilenphglgaa
open Go.RowKit
set_option linter.unusedVariables false

/-- One piece more behind a row of pieces. -/
theorem app_pc {w : World} {base n : Nat} {v : Value} {os : List Pc} (hown : w.ownsRow base 36 2 v n (os.flatMap pcC)) (p : Pc) (hn : n ≤ 2000) (hbase : base ≤ w.heap.size) (H : Nat) (hH : w.heap.size = H)
    (ops : Array Oper) (rest : List Oper) (o : Oper) (a : Act) (Q : Exit → Act → World → Prop) (hg : o.guard = none) (s x : Operand) (ho : o.op = .call { callee := .builtin .append, args := #[s, x], argTypes := #[23, 23] })
    (hs : a.eval s = v) (hx : a.eval x = .slice (some ⟨H, 0, none⟩) 1 1)
    (h : ∀ g cap w', w'.ownsRow base 36 2 (.slice (some ⟨g, 0, none⟩) (n + 1) cap) (n + 1) ((os ++ [p]).flatMap pcC) → (w.alloc (.cells #[.int .i64 p.t, .string p.s] 36)).grownBy w' v.ownBlock → (v.ownBlock = some g ∨ g = H + 1) →
      wpList Try.prog ops Q rest (a.put o.dst (.slice (some ⟨g, 0, none⟩) (n + 1) cap)) w') : wpList Try.prog ops Q (o :: rest) a (w.alloc (.cells #[.int .i64 p.t, .string p.s] 36)) := by
  subst hH
  obtain ⟨i0, hii, hz0, hz1, hz2⟩ := info_parts infoPc
  exact wpList_append_lies _ hg s x 23 ho base 36 i0 _ 2 24 Try.underlying23 hii hz0 hz1 hz2 rfl (by omega) v n (os.flatMap pcC) hs (hown.alloc _) ⟨w.heap.size, 0, none⟩ 1 1 [.int .i64 p.t, .string p.s] hx rfl
    (World.news_of_block (cs := #[.int .i64 p.t, .string p.s]) (t := 36) (fr := (0, 0)) (heap_alloc_new w _)) (by simp [Value.oneCell']) (by omega) (by unfold maxLen; omega) (by omega) (by simp; omega) (w.heap.size + 1) (by simp)
    fun g cap w' h1 h2 h3 _ => h g cap w' (own_snoc (o := p) h1) h2 h3
def notesF (ts : List Tk) (ps : List Pc) : List Pc := ps.filter fun p => noteB ts p.t
theorem notes_take {ts : List Tk} {ps : List Pc} {k : Nat} {p : Pc} (h : ps[k]? = some p) : notesF ts (ps.take (k + 1)) = if noteB ts p.t then notesF ts (ps.take k) ++ [p] else notesF ts (ps.take k) := by
  unfold notesF
  rw [List.take_add_one, h]
  simp only [Option.toList_some, List.filter_append, List.filter_cons, List.filter_nil]
  split <;> simp
theorem notes_len (ts : List Tk) (ps : List Pc) (k : Nat) : (notesF ts (ps.take k)).length ≤ k := by
  unfold notesF
  have h1 := List.length_filter_le (fun p : Pc => noteB ts p.t) (ps.take k)
  have h2 : (ps.take k).length ≤ k := List.length_take_le _ _
  omega

set_option maxHeartbeats 1000000 in
theorem notes_any (w : World) (A B : Option Addr) (len cap n d : Nat) (ts : List Tk) (ps : List Pc) (hA : CRow tkC 3 w A len ts) (hB : CRow pcC 2 w B n ps) (hn : n ≤ 1000) :
    Calls Try.prog 13 #[.slice A len cap, .slice B n d] w fun e w' => ∃ V m c, e = .returned (.slice V m c) ∧ CRow pcC 2 w' V m (notesF ts ps) ∧ Below w.heap.size w w' := by
  have hl2 := hB.2.1
  have HT := Lib.hid fun v (hv : Below w.heap.size w v) t => class_any v A len cap ts t (hA.below hv)
  have HB := Lib.hid hB
  have HL := Lib.hid hB.1
  clear hA hB
  obtain ⟨g, hg⟩ : ∃ g, w.heap.size = g := ⟨_, rfl⟩
  have HG := Lib.hid hg
  have HR := Lib.hid (show Below g w w by rw [← hg]; exact Below.refl _ _)
  clear hg
  go_enter Try.func13, Try.ntmps13
  go_wp2
  go_loopw [5, 10] (fun v i wr => ∃ (k : Nat), k ≤ n ∧ i = .int .i64 k ∧ wr.ownsRow g 36 2 v (notesF ts (ps.take k)).length ((notesF ts (ps.take k)).flatMap pcC) ∧ Below g w wr) (fun _ i _ => n - (intOf i).toNat)
  case atStart => exact ⟨0, by omega, rfl, own_new _ _ _ _, HR.out⟩
  case round =>
    obtain ⟨k, hk, rfl, hown, hb⟩ := hrel
    have HOWN := Lib.hid hown
    have HBW := Lib.hid hb
    have HLN := Lib.hid (notes_len ts ps k)
    have hgl : g ≤ wr.heap.size := by have := HG.out; have := hb.size; omega
    clear hown hb
    by_cases hlt : k < n
    · obtain ⟨b1, o1, p, rfl, hbl, hp, hc⟩ := HB.out.at_ hlt
      have hbg : b1 < g := by have := HG.out; omega
      have c0 : wr.cell? ⟨b1, o1 + k * 2, none⟩ = some (.int .i64 p.t) := (HBW.out.cell (p := ⟨b1, o1 + k * 2, none⟩) hbg).trans (hc 0 _ rfl)
      have c1 : wr.cell? ⟨b1, o1 + k * 2 + 1, none⟩ = some (.string p.s) := (HBW.out.cell (p := ⟨b1, o1 + k * 2 + 1, none⟩) hbg).trans (hc 1 _ rfl)
      have HBW2 := Lib.hid (HBW.out.alloc hgl (.cells #[.int .i64 p.t, .string p.s] 36))
      have HTK := Lib.hid (HT.out _ (by rw [HG.out]; exact HBW2.out) p.t)
      have HST := Lib.hid (notes_take (ts := ts) hp)
      have HO2 := Lib.hid (HOWN.out.alloc (.cells #[.int .i64 p.t, .string p.s] 36))
      have HA := Lib.hid (app_pc HO2.out p (by have := HLN.out; omega) (by simp; omega) (wr.heap.size + 1) (by simp))
      unfold noteB at HST
      obtain ⟨c, hcl⟩ : ∃ c, cl ts p.t = c := ⟨_, rfl⟩
      rw [hcl] at HTK HST
      clear hp hc hcl
      by_cases hc1 : 1 < c
      · rw [if_pos (by simpa using hc1)] at HST
        go_wp2_with (first
          | (go_at_call 20; (with_reducible refine HTK.out.mono ?_); rintro e w1 ⟨rfl, rfl⟩)
          | (at_builtin; refine HA.out _ _ _ _ _ rfl _ _ rfl rfl rfl ?_; intro gg cap2 w2 hown1 hgrow hat; have HW1 := Lib.hid hown1; have HGR := Lib.hid hgrow; clear hown1 hgrow hat))
        go_roundw
        case rel => exact ⟨k + 1, by omega, by go_num, by rw [HST.out, List.length_append]; exact HW1.out, below_grown (HBW2.out.alloc (by simp; omega) _) (by simp; omega) HGR.out (fun j hj => (own_ge HOWN.out hj).1)⟩
        case measure => simp [intOf]; omega
      · rw [if_neg (by simpa using hc1)] at HST
        go_wp2_with (go_at_call 20; (with_reducible refine HTK.out.mono ?_); rintro e w1 ⟨rfl, rfl⟩)
        go_roundw
        case rel => exact ⟨k + 1, by omega, by go_num, by rw [HST.out]; exact HO2.out, HBW2.out⟩
        case measure => simp [intOf]; omega
    · have HK : Hid (ps.take k = ps) := by show _ = _; exact List.take_of_length_le (by rw [HL.out]; omega)
      rw [HK.out] at HOWN
      obtain ⟨V, c, hv, _⟩ := own_form HOWN.out
      subst hv
      have HC := Lib.hid (own_crow pcC_len HOWN.out (by have := HLN.out; rw [HK.out] at this; omega))
      go_wp2
      go_ret
      exact ⟨_, _, _, rfl, HC.out, by rw [HG.out]; exact HBW.out⟩
set_option maxHeartbeats 1000000 in
theorem refnotes_any (w : World) (A B : Option Addr) (len cap n d : Nat) (ts : List Tk) (ps : List Pc) (hA : CRow tkC 3 w A len ts) (hB : CRow pcC 2 w B n ps) (hn : n ≤ 1000) :
    Calls Try.prog 14 #[.slice A len cap, .slice B n d] w fun e w' => ∃ V m c, e = .returned (.slice V m c) ∧ CRow pcC 2 w' V m (notesF ts ps) ∧ Below w.heap.size w w' := by
  have hl2 := hB.2.1
  have HT := Lib.hid fun v (hv : Below w.heap.size w v) t c => is_any v A len cap ts t c (hA.below hv)
  have HB := Lib.hid hB
  have HL := Lib.hid hB.1
  clear hA hB
  obtain ⟨g, hg⟩ : ∃ g, w.heap.size = g := ⟨_, rfl⟩
  have HG := Lib.hid hg
  have HR := Lib.hid (show Below g w (w.alloc (.cells #[] 36)) by rw [← hg]; exact (Below.refl _ _).alloc (Nat.le_refl _) _)
  have HO0 := Lib.hid (World.ownsRow_made (base := g) (e := 36) (size := 2) w #[] 0 (Nat.le_of_eq HG.out.symm) (by decide) (by simp))
  rw [hg] at HO0
  go_enter Try.func14, Try.ntmps14
  go_wp2
  clear hg
  go_loopw [5, 6] (fun v i wr => ∃ (k : Nat), k ≤ n ∧ i = .int .i64 k ∧ wr.ownsRow g 36 2 v (notesF ts (ps.take k)).length ((notesF ts (ps.take k)).flatMap pcC) ∧ Below g w wr) (fun _ i _ => n - (intOf i).toNat)
  case atStart => exact ⟨0, by omega, rfl, HO0.out, HR.out⟩
  case round =>
    obtain ⟨k, hk, rfl, hown, hb⟩ := hrel
    have HOWN := Lib.hid hown
    have HBW := Lib.hid hb
    have HLN := Lib.hid (notes_len ts ps k)
    have hgl : g ≤ wr.heap.size := by have := HG.out; have := hb.size; omega
    clear hown hb
    by_cases hlt : k < n
    · obtain ⟨b1, o1, p, rfl, hbl, hp, hc⟩ := HB.out.at_ hlt
      have hbg : b1 < g := by have := HG.out; omega
      have c0 : wr.cell? ⟨b1, o1 + k * 2, none⟩ = some (.int .i64 p.t) := (HBW.out.cell (p := ⟨b1, o1 + k * 2, none⟩) hbg).trans (hc 0 _ rfl)
      have c1 : wr.cell? ⟨b1, o1 + k * 2 + 1, none⟩ = some (.string p.s) := (HBW.out.cell (p := ⟨b1, o1 + k * 2 + 1, none⟩) hbg).trans (hc 1 _ rfl)
      have H2 := Lib.hid (HT.out wr (by rw [HG.out]; exact HBW.out) p.t 2)
      have H3 := Lib.hid (HT.out wr (by rw [HG.out]; exact HBW.out) p.t 3)
      have HST := Lib.hid (notes_take (ts := ts) hp)
      have HA := Lib.hid (app_pc HOWN.out p (by have := HLN.out; omega) hgl wr.heap.size rfl)
      rw [note_is] at HST
      clear hp hc
      cases i2 : isB ts p.t 2 with
      | true =>
        rw [i2] at H2 HST
        clear i2
        go_wp2_with (first
          | (go_at_call 21; (with_reducible refine H2.out.mono ?_); rintro e w1 ⟨rfl, rfl⟩)
          | (at_builtin; refine HA.out _ _ _ _ _ rfl _ _ rfl rfl rfl ?_; intro gg cap2 w2 hown1 hgrow hat; have HW1 := Lib.hid hown1; have HGR := Lib.hid hgrow; clear hown1 hgrow hat))
        go_roundw
        case rel => exact ⟨k + 1, by omega, by go_num, by rw [HST.out, if_pos (by simp), List.length_append]; exact HW1.out, below_grown (HBW.out.alloc hgl _) (by simp; omega) HGR.out (fun j hj => (own_ge HOWN.out hj).1)⟩
        case measure => simp [intOf]; omega
      | false =>
        rw [i2] at H2 HST
        clear i2
        cases i3 : isB ts p.t 3 with
        | true =>
          rw [i3] at H3 HST
          clear i3
          go_wp2_with (first
            | (go_at_call 21; (first | ((with_reducible refine H2.out.mono ?_); rintro e w1 ⟨rfl, rfl⟩) | ((with_reducible refine H3.out.mono ?_); rintro e w1 ⟨rfl, rfl⟩)))
            | (at_builtin; refine HA.out _ _ _ _ _ rfl _ _ rfl rfl rfl ?_; intro gg cap2 w2 hown1 hgrow hat; have HW1 := Lib.hid hown1; have HGR := Lib.hid hgrow; clear hown1 hgrow hat))
          go_roundw
          case rel => exact ⟨k + 1, by omega, by go_num, by rw [HST.out, if_pos (by simp), List.length_append]; exact HW1.out, below_grown (HBW.out.alloc hgl _) (by simp; omega) HGR.out (fun j hj => (own_ge HOWN.out hj).1)⟩
          case measure => simp [intOf]; omega
        | false =>
          rw [i3] at H3 HST
          clear i3
          go_wp2_with (go_at_call 21; (first | ((with_reducible refine H2.out.mono ?_); rintro e w1 ⟨rfl, rfl⟩) | ((with_reducible refine H3.out.mono ?_); rintro e w1 ⟨rfl, rfl⟩)))
          go_roundw
          case rel => exact ⟨k + 1, by omega, by go_num, by rw [HST.out, if_neg (by simp)]; exact HOWN.out, HBW.out⟩
          case measure => simp [intOf]; omega
    · have HK : Hid (ps.take k = ps) := by show _ = _; exact List.take_of_length_le (by rw [HL.out]; omega)
      rw [HK.out] at HOWN
      obtain ⟨V, c, hv, _⟩ := own_form HOWN.out
      subst hv
      have HC := Lib.hid (own_crow pcC_len HOWN.out (by have := HLN.out; rw [HK.out] at this; omega))
      go_wp2
      go_ret
      exact ⟨_, _, _, rfl, HC.out, by rw [HG.out]; exact HBW.out⟩
end Go.Proofs.Ytdffilenphglgaa
