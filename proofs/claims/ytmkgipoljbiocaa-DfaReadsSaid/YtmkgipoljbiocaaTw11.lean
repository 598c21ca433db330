/- Several texts in one: OpenDfa, OpenSets, OpenNet, OpenTok, NetP, BuildP, FuseP, Lang, Glush, Shift, NetL, FuseL, AccN, TabL. -/
import Derived.Test.YtmkgipoljbiocaaTw2
import Derived.Test.YtmkgipoljbiocaaTw1
import Derived.ProofKit
import Derived.OpenShut
import Derived.Deep.Slices
import Derived.Test.YtmkgipoljbiocaaTw9
import Derived.Test.YtmkgipoljbiocaaTw7
import Derived.Test.YtmkgipoljbiocaaTw8
import Derived.Test.YtmkgipoljbiocaaTw10
import Derived.Test.YtmkgipoljbiocaaTw3
import Derived.Test.YtmkgipoljbiocaaTw5
import Derived.Test.YtmkgipoljbiocaaTw4
/- A machine, a piece, a list of numbers, and a list of such, that came in, opened. -/
namespace Go.Proofs.Ytmkgipoljbiocaa
open Go.RowKit Go.ChangeShapes Go.WideShapes Go.Deep

theorem okWide_arr {P : Program} {w : World} {r : Reach} {base : Nat} {t : TypeId} {v : Value} {n : Nat} {e : TypeId} (ht : P.underlying t = some (.array n e)) (h : Value.okWide P w r base t v) : ∃ cs, v = .agg cs ∧ cs.size = P.cellsOf t := by
  unfold Value.okWide at h
  simp only [ht] at h
  obtain ⟨cs, rfl, h1, _⟩ := h
  exact ⟨cs, rfl, h1⟩
theorem cellsArr : Try.prog.cellsOf 30 = 256 := by kernel_rfl
theorem cellsU8 : Try.prog.cellsOf 5 = 1 := by kernel_rfl
set_option maxRecDepth 100000 in
theorem arr_open {H : Type} {enc : TypeId × Value → H} {W : World} {fuel : Nat} {cs : Array Value} {x : DataW H × List MemPlace}
    (h : DataW.trod enc Try.prog W 0 (fun _ => true) true fuel 30 cs.toList = some x) : ∃ C : Nat → Nat, cs = arrC C ∧ ∀ i, C i < 256 := by
  obtain ⟨xs, m, rfl, rfl, hl, hx, hi⟩ := DataW.trod_array Try.underlying30 h
  rw [cellsArr] at hl
  rw [cellsU8] at hi
  have hsz : cs.size = 256 := by simpa using hl
  refine arrC_of cs hsz fun i hic => ?_
  have hh := hi i (by omega)
  rw [List.getElem?_eq_getElem (show i < xs.length by omega)] at hh
  obtain ⟨n, e, _, wn⟩ := DataW.trod_int Try.underlying5 hh
  have he : cs[i] = .int .u8 n := by
    have h2 : (List.take 1 (List.drop (i * 1) cs.toList))[0]? = some (.int .u8 n) := by rw [e]; rfl
    rw [List.getElem?_take_of_lt (by omega), List.getElem?_drop] at h2
    simpa [hic] using h2
  have hb := bounds_u8 wn
  exact ⟨n.toNat, by rw [he]; congr 1; omega, by omega⟩
theorem cells_int : Try.prog.cellsOf 3 = 1 := by kernel_rfl
theorem cells_ints : Try.prog.cellsOf 23 = 1 := by kernel_rfl
theorem cells_intss : Try.prog.cellsOf 25 = 1 := by kernel_rfl
theorem cells_dfa : Try.prog.cellsOf 32 = 259 := by kernel_rfl
section
variable {H : Type} {enc : TypeId × Value → H} {W : World} {fuel : Nat}
theorem ints_open {a : Option Addr} {len cap : Nat} {x : DataW H × List MemPlace} (h : DataW.trod enc Try.prog W 0 (fun _ => true) true fuel 23 [.slice a len cap] = some x) : ∃ zs, CRow intC 1 W a len zs := by
  obtain ⟨os, ho, _⟩ := crow_open (C := intC) (G := fun _ => True) Try.underlying23 cells_int (by decide) (fun n cs y hy hl => by
    match cs, hl with
    | [c0], _ =>
      obtain ⟨k, e0, _, _⟩ := DataW.trod_int Try.underlying3 hy
      exact ⟨k, e0, trivial⟩) h
  exact ⟨os, ho⟩
theorem intss_open {a : Option Addr} {len cap : Nat} {x : DataW H × List MemPlace} (h : DataW.trod enc Try.prog W 0 (fun _ => true) true fuel 25 [.slice a len cap] = some x) : ∃ ls, NRow intC 1 W a len ls := by
  obtain ⟨os, ho, hg, _⟩ := crow_open (C := seC (α := Int)) (G := fun o => CRow intC 1 W o.a o.l o.xs) Try.underlying25 cells_ints (by decide) (fun n cs y hy hl => by
    match cs, hl with
    | [c0], _ =>
      obtain ⟨a, l, c, e0⟩ := Joins.slice_form Try.underlying23 hy
      simp at e0
      subst e0
      obtain ⟨zs, hz⟩ := ints_open hy
      exact ⟨⟨a, l, c, zs⟩, rfl, hz⟩) h
  exact ⟨_, os, ho, hg, rfl⟩
theorem at_one {cs : Array Value} {k : Nat} {v : Value} (h : (cs.toList.drop k).take 1 = [v]) : cs[k]? = some v := by
  have h1 := congrArg (fun l => l[0]?) h
  simp only [List.getElem?_cons_zero] at h1
  rw [List.getElem?_take_of_lt (by omega), List.getElem?_drop, Nat.add_zero, Array.getElem?_toList] at h1
  exact h1
set_option maxRecDepth 100000 in
theorem dfa_open {cs : Array Value} {x : DataW H × List MemPlace} (h : DataW.trod enc Try.prog W 0 (fun _ => true) true fuel 32 cs.toList = some x) (hs : cs.size = 259) :
    ∃ (D : Df) (M : MS), cs = dfA D ∧ MAt W D M ∧ ∀ i, M.cl i < 256 := by
  obtain ⟨y0, y1, y2, y3, n, rfl, hl, g0, g1, g2, g3⟩ := Joins.trod_struct4 Try.underlying32 h
  simp only [cellsArr, cells_int, cells_intss, cells_ints] at g0 g1 g2 g3
  obtain ⟨C, hC, hlt⟩ := arr_open (cs := ((cs.toList.drop 0).take 256).toArray) (by simpa using g0)
  obtain ⟨z, e1, _, _⟩ := DataW.trod_int Try.underlying3 g1
  obtain ⟨na, nl, nc, e2⟩ := Joins.slice_form Try.underlying25 g2
  obtain ⟨la, ll, lc, e3⟩ := Joins.slice_form Try.underlying23 g3
  rw [e2] at g2
  rw [e3] at g3
  obtain ⟨ls, hls⟩ := intss_open g2
  obtain ⟨zs, hzs⟩ := ints_open g3
  refine ⟨⟨C, z, na, nl, nc, la, ll, lc⟩, ⟨C, z, ls, zs⟩, dfA_ext hs (fun i hi => ?_) (at_one e1) (at_one e2) (at_one e3), ⟨rfl, rfl, hls, hzs⟩, hlt⟩
  have h1 := congrArg (fun A => A[i]?) hC
  simp only [arrC_at C i hi, List.drop_zero, List.getElem?_toArray] at h1
  rw [List.getElem?_take_of_lt hi, Array.getElem?_toList] at h1
  exact h1
end
end Go.Proofs.Ytmkgipoljbiocaa
/- An argument that is a slice of sets, opened. -/
namespace Go.Proofs.Ytmkgipoljbiocaa
open Go.RowKit Go.ChangeShapes Go.WideShapes Go.Deep

theorem cellsSet : Try.prog.cellsOf 74 = 4 := by kernel_rfl
theorem cellsU64 : Try.prog.cellsOf 72 = 1 := by kernel_rfl
theorem nat_of_wf {n : Int} (h : (Lit.int .u64 n).wf = true) : ∃ m : Nat, n = m ∧ m < 18446744073709551616 := by
  have := bounds_u64 h
  exact ⟨n.toNat, by omega, by omega⟩
set_option maxRecDepth 10000 in
theorem set_open {H : Type} {enc : TypeId × Value → H} {W : World} {fuel : Nat} {cs : List Value} {x : DataW H × List MemPlace}
    (h : DataW.trod enc Try.prog W 0 (fun _ => true) true fuel 74 cs = some x) : ∃ S : Nat → Bool, cs = [.int .u64 (wd S 0), .int .u64 (wd S 1), .int .u64 (wd S 2), .int .u64 (wd S 3)] := by
  obtain ⟨xs, m, rfl, rfl, hl, hx, hi⟩ := DataW.trod_array Try.underlying74 h
  rw [cellsSet] at hl
  rw [cellsU64] at hi
  match cs, hl with
  | [c0, c1, c2, c3], _ =>
    have g : ∀ i (h : i < 4), ∃ n : Int, [c0, c1, c2, c3][i]? = some (.int .u64 n) ∧ (Lit.int .u64 n).wf = true := by
      intro i h4
      have hh := hi i h4
      rw [List.getElem?_eq_getElem (show i < xs.length by omega)] at hh
      have hi4 : i = 0 ∨ i = 1 ∨ i = 2 ∨ i = 3 := by omega
      rcases hi4 with rfl | rfl | rfl | rfl
      all_goals
        obtain ⟨n, e, _, wn⟩ := DataW.trod_int Try.underlying72 hh
        simp at e
        exact ⟨n, by simp [e], wn⟩
    obtain ⟨n0, e0, w0⟩ := g 0 (by omega)
    obtain ⟨n1, e1, w1⟩ := g 1 (by omega)
    obtain ⟨n2, e2, w2⟩ := g 2 (by omega)
    obtain ⟨n3, e3, w3⟩ := g 3 (by omega)
    simp at e0 e1 e2 e3
    subst e0 e1 e2 e3
    obtain ⟨m0, rfl, l0⟩ := nat_of_wf w0
    obtain ⟨m1, rfl, l1⟩ := nat_of_wf w1
    obtain ⟨m2, rfl, l2⟩ := nat_of_wf w2
    obtain ⟨m3, rfl, l3⟩ := nat_of_wf w3
    refine ⟨ofWords fun i => if i = 0 then m0 else if i = 1 then m1 else if i = 2 then m2 else m3, ?_⟩
    rw [wd_ofWords _ 0 (by simpa using l0), wd_ofWords _ 1 (by simpa using l1), wd_ofWords _ 2 (by simpa using l2), wd_ofWords _ 3 (by simpa using l3)]
    rfl
theorem srow_open {H : Type} {enc : TypeId × Value → H} {W : World} {fuel : Nat} {a : Option Addr} {len cap : Nat} {x : DataW H × List MemPlace}
    (h : DataW.trod enc Try.prog W 0 (fun _ => true) true fuel 22 [.slice a len cap] = some x) : ∃ ls, SRow W a len ls := by
  rcases open_slice Try.underlying22 h with ⟨hcs, _⟩ | ⟨b, l, c, m, n, D, Pl, hcs, hb, hl, hm, hmm, _, hi⟩
  · simp at hcs
    obtain ⟨rfl, rfl, rfl⟩ := hcs
    exact ⟨[], rfl, by decide, fun h => absurd h (by decide)⟩
  · simp at hcs
    obtain ⟨rfl, rfl, rfl⟩ := hcs
    rw [cellsSet] at hi
    have hm' : m = cap := by simpa using hmm
    have key : ∀ i, i < len → ∃ S : Nat → Bool, ∀ j, j < 4 → W.cell? (b.add (i * 4 + j)) = some (.int .u64 (wd S j)) := by
      intro i hil
      obtain ⟨cs', h1, h2⟩ := hi i (by omega)
      obtain ⟨S, rfl⟩ := set_open h2
      refine ⟨S, fun j hj => ?_⟩
      have := (World.cells?_some h1).2.2 j (by simpa using hj)
      first | rw [Addr.add_add] at this | rw [Go.Deep.add_add] at this | rw [add_add] at this
      rw [this]
      have hj4 : j = 0 ∨ j = 1 ∨ j = 2 ∨ j = 3 := by omega
      rcases hj4 with rfl | rfl | rfl | rfl <;> rfl
    obtain ⟨F, hF⟩ := choose_lt (α := Nat → Bool) (p := fun i S => ∀ j, j < 4 → W.cell? (b.add (i * 4 + j)) = some (.int .u64 (wd S j))) key
    refine ⟨(List.range len).map F, by simp, ?_, fun hp => ?_⟩
    · have hml : maxLen ≤ 9223372036854775807 := by decide
      omega
    obtain ⟨b0, off, spot⟩ := b
    have hspot : spot = none := by simpa [Addr.add] using World.cell?_spot (hF 0 hp 0 (by omega))
    subst hspot
    refine ⟨b0, off, rfl, World.block_lt_of_cell? W _ (hF 0 hp 0 (by omega)), fun i S hi j hj => ?_⟩
    have hil : i < len := by
      have := (List.getElem?_eq_some_iff.1 hi).1
      simpa using this
    have hS : S = F i := by
      rw [List.getElem?_map, List.getElem?_range hil] at hi
      simpa using hi.symm
    rw [hS, show off + i * 4 + j = off + (i * 4 + j) by omega, ← Go.WideShapes.add_plain]
    exact hF i hil j hj
end Go.Proofs.Ytmkgipoljbiocaa
/- A net that came in, opened. -/
namespace Go.Proofs.Ytmkgipoljbiocaa
open Go.RowKit Go.ChangeShapes Go.WideShapes Go.Deep
theorem cells_sets : Try.prog.cellsOf 22 = 1 := by kernel_rfl
theorem cells_bool : Try.prog.cellsOf 4 = 1 := by kernel_rfl
theorem cells_bools : Try.prog.cellsOf 24 = 1 := by kernel_rfl
theorem cells_net : Try.prog.cellsOf 27 = 5 := by kernel_rfl
section
variable {H : Type} {enc : TypeId × Value → H} {W : World} {fuel : Nat}
theorem trod_struct5 {P : Program} {w : World} {base : Nat} {spare : Nat → Bool} {held : Bool} {t : TypeId} {f0 f1 f2 f3 f4 : Field} {fuel : Nat} {cs : List Value} {x : DataW H × List MemPlace} (ht : P.underlying t = some (.struct #[f0, f1, f2, f3, f4])) (h : DataW.trod enc P w base spare held fuel t cs = some x) :
    ∃ y0 y1 y2 y3 y4 n, cs.length = P.cellsOf t ∧ DataW.trod enc P w base spare held n f0.type ((cs.drop f0.offset).take (P.cellsOf f0.type)) = some y0 ∧
      DataW.trod enc P w base spare held n f1.type ((cs.drop f1.offset).take (P.cellsOf f1.type)) = some y1 ∧ DataW.trod enc P w base spare held n f2.type ((cs.drop f2.offset).take (P.cellsOf f2.type)) = some y2 ∧
      DataW.trod enc P w base spare held n f3.type ((cs.drop f3.offset).take (P.cellsOf f3.type)) = some y3 ∧ DataW.trod enc P w base spare held n f4.type ((cs.drop f4.offset).take (P.cellsOf f4.type)) = some y4 := by
  obtain ⟨xs, n, _, rfl, hl, hlen, hf⟩ := DataW.trod_struct ht h
  match xs, hlen with
  | [y0, y1, y2, y3, y4], _ => exact ⟨y0, y1, y2, y3, y4, n, hl, by simpa using hf 0 f0 rfl, by simpa using hf 1 f1 rfl, by simpa using hf 2 f2 rfl, by simpa using hf 3 f3 rfl, by simpa using hf 4 f4 rfl⟩
theorem ints_open2 {a : Option Addr} {len cap : Nat} {x : DataW H × List MemPlace} (h : DataW.trod enc Try.prog W 0 (fun _ => true) true fuel 23 [.slice a len cap] = some x) : ∃ zs, CRow intC 1 W a len zs ∧ len ≤ cap ∧ cap ≤ 9223372036854775807 := by
  obtain ⟨os, ho, _, hc⟩ := crow_open (C := intC) (G := fun _ => True) Try.underlying23 cells_int (by decide) (fun n cs y hy hl => by
    match cs, hl with
    | [c0], _ =>
      obtain ⟨k, e0, _, _⟩ := DataW.trod_int Try.underlying3 hy
      exact ⟨k, e0, trivial⟩) h
  exact ⟨os, ho, hc⟩
theorem bools_open {a : Option Addr} {len cap : Nat} {x : DataW H × List MemPlace} (h : DataW.trod enc Try.prog W 0 (fun _ => true) true fuel 24 [.slice a len cap] = some x) : ∃ zs, CRow bolC 1 W a len zs := by
  obtain ⟨os, ho, _⟩ := crow_open (C := bolC) (G := fun _ => True) Try.underlying24 cells_bool (by decide) (fun n cs y hy hl => by
    match cs, hl with
    | [c0], _ =>
      obtain ⟨k, e0, _⟩ := DataW.trod_bool Try.underlying4 hy
      exact ⟨k, e0, trivial⟩) h
  exact ⟨os, ho⟩
theorem intss_open2 {a : Option Addr} {len cap : Nat} {x : DataW H × List MemPlace} (h : DataW.trod enc Try.prog W 0 (fun _ => true) true fuel 25 [.slice a len cap] = some x) : ∃ ls, NRow intC 1 W a len ls ∧ FCap W a len := by
  obtain ⟨os, ho, hg, _⟩ := crow_open (C := seC (α := Int)) (G := fun o => CRow intC 1 W o.a o.l o.xs ∧ o.l ≤ o.c ∧ o.c ≤ 9223372036854775807) Try.underlying25 cells_ints (by decide) (fun n cs y hy hl => by
    match cs, hl with
    | [c0], _ =>
      obtain ⟨a, l, c, e0⟩ := Joins.slice_form Try.underlying23 hy
      simp at e0
      subst e0
      obtain ⟨zs, hz, hc⟩ := ints_open2 hy
      exact ⟨⟨a, l, c, zs⟩, rfl, hz, hc⟩) h
  refine ⟨_, ⟨os, ho, fun o h => (hg o h).1, rfl⟩, fun i b off hi ha => ?_⟩
  obtain ⟨hlen, _, hc⟩ := ho
  obtain ⟨b', off', e, hlt, hc⟩ := hc (by omega)
  rw [ha] at e
  simp only [Option.some.injEq, Addr.mk.injEq, and_true] at e
  obtain ⟨rfl, rfl⟩ := e
  refine ⟨hlt, fun A l c he => ?_⟩
  obtain ⟨o, ho⟩ : ∃ o, os[i]? = some o := ⟨_, List.getElem?_eq_getElem (by omega)⟩
  have hcell := hc i o ho 0 (.slice o.a o.l o.c) rfl
  rw [Nat.mul_one, Nat.add_zero] at hcell
  rw [hcell] at he
  simp only [Option.some.injEq, Value.slice.injEq] at he
  obtain ⟨rfl, rfl, rfl⟩ := he
  exact (hg o (List.mem_of_getElem? ho)).2
theorem net_open {cs : Array Value} {x : DataW H × List MemPlace} (h : DataW.trod enc Try.prog W 0 (fun _ => true) true fuel 27 cs.toList = some x) (hs : cs.size = 5) :
    ∃ (v : Nv) (N : NetS), cs = netA v ∧ NetAt W v N ∧ FCap W v.fa v.fn := by
  obtain ⟨y0, y1, y2, y3, y4, n, hl, g0, g1, g2, g3, g4⟩ := trod_struct5 Try.underlying27 h
  simp only [cells_sets, cells_ints, cells_bools, cells_intss] at g0 g1 g2 g3 g4
  obtain ⟨sa, sn, sc, e0⟩ := Joins.slice_form Try.underlying22 g0
  obtain ⟨oa, on, oc, e1⟩ := Joins.slice_form Try.underlying23 g1
  obtain ⟨la, ln, lc, e2⟩ := Joins.slice_form Try.underlying24 g2
  obtain ⟨fa, fn, fc, e3⟩ := Joins.slice_form Try.underlying25 g3
  obtain ⟨ra, rn, rc, e4⟩ := Joins.slice_form Try.underlying23 g4
  rw [e0] at g0
  rw [e1] at g1
  rw [e2] at g2
  rw [e3] at g3
  rw [e4] at g4
  obtain ⟨s, hss⟩ := srow_open g0
  obtain ⟨o, ho⟩ := ints_open g1
  obtain ⟨l, hll⟩ := bools_open g2
  obtain ⟨f, hf, hfc⟩ := intss_open2 g3
  obtain ⟨r, hr⟩ := ints_open g4
  refine ⟨⟨sa, sn, sc, oa, on, oc, la, ln, lc, fa, fn, fc, ra, rn, rc⟩, ⟨s, o, l, f, r⟩, ?_, ⟨hss, ho, hll, hf, hr⟩, hfc⟩
  have a0 := at_one e0
  have a1 := at_one e1
  have a2 := at_one e2
  have a3 := at_one e3
  have a4 := at_one e4
  apply Array.ext_getElem?
  intro i
  by_cases hi : i < 5
  · have : i = 0 ∨ i = 1 ∨ i = 2 ∨ i = 3 ∨ i = 4 := by omega
    rcases this with rfl | rfl | rfl | rfl | rfl
    · exact a0
    · exact a1
    · exact a2
    · exact a3
    · exact a4
  · rw [Array.getElem?_eq_none (by omega), Array.getElem?_eq_none (by show 5 ≤ i; omega)]
end
end Go.Proofs.Ytmkgipoljbiocaa
/- Tokens with their expressions that came in, opened. -/
namespace Go.Proofs.Ytmkgipoljbiocaa
open Go.RowKit Go.ChangeShapes Go.WideShapes Go.Deep
theorem cells_kind : Try.prog.cellsOf 86 = 1 := by kernel_rfl
theorem cells_rx : Try.prog.cellsOf 88 = 5 := by kernel_rfl
theorem cells_class : Try.prog.cellsOf 44 = 1 := by kernel_rfl
theorem cells_rxs : Try.prog.cellsOf 43 = 1 := by kernel_rfl
theorem cells_tok : Try.prog.cellsOf 46 = 3 := by kernel_rfl
section
variable {H : Type} {enc : TypeId × Value → H} {W : World} {fuel : Nat}
theorem rx_open {cs : List Value} {x : DataW H × List MemPlace} (h : DataW.trod enc Try.prog W 0 (fun _ => true) true fuel 88 cs = some x) (hl : cs.length = 5) : ∃ o : Rx, cs = rxC o := by
  match cs, hl with
  | [c0, c1, c2, c3, c4], _ =>
    obtain ⟨y0, y1, n, rfl, _, g0, g1⟩ := trod_struct2 Try.underlying88 h
    simp only [cells_kind, cellsSet, List.drop_zero, List.drop_succ_cons, List.take_succ_cons, List.take_zero] at g0 g1
    obtain ⟨k, e0, _, w0⟩ := DataW.trod_int Try.underlying86 g0
    obtain ⟨S, e1⟩ := set_open g1
    simp at e0 e1
    obtain ⟨rfl, rfl, rfl, rfl⟩ := e1
    subst e0
    exact ⟨⟨k, S⟩, rfl⟩
theorem rxs_open {a : Option Addr} {len cap : Nat} {x : DataW H × List MemPlace} (h : DataW.trod enc Try.prog W 0 (fun _ => true) true fuel 43 [.slice a len cap] = some x) : ∃ rs, CRow rxC 5 W a len rs := by
  obtain ⟨os, ho, _⟩ := crow_open (C := rxC) (G := fun _ => True) Try.underlying43 cells_rx (by decide) (fun n cs y hy hl => by
    obtain ⟨o, e⟩ := rx_open hy hl
    exact ⟨o, e, trivial⟩) h
  exact ⟨os, ho⟩
/-- A row of tokens, of any expressions. -/
def TkAny (w : World) (a : Option Addr) (n : Nat) (ts : List TkN) : Prop := CRow tknC 3 w a n ts ∧ ∀ t ∈ ts, IsRx w t.ra t.rl t.o ∧ t.rl ≤ 9223372036854775807
theorem tkn_open {cs : List Value} {x : DataW H × List MemPlace} (h : DataW.trod enc Try.prog W 0 (fun _ => true) true fuel 46 cs = some x) (hl : cs.length = 3) : ∃ o : TkN, cs = tknC o ∧ IsRx W o.ra o.rl o.o ∧ o.rl ≤ 9223372036854775807 := by
  match cs, hl with
  | [c0, c1, c2], _ =>
    obtain ⟨y0, y1, y2, n, rfl, _, g0, g1, g2⟩ := trod_struct3 Try.underlying46 h
    simp only [cells_class, cells_rxs, List.drop_zero, List.drop_succ_cons, List.take_succ_cons, List.take_zero] at g1 g2
    obtain ⟨k, e2, _, _⟩ := DataW.trod_int Try.underlying44 g2
    obtain ⟨a, l, c, e1⟩ := Joins.slice_form Try.underlying43 g1
    simp at e1 e2
    subst e1 e2
    obtain ⟨rs, hrs⟩ := rxs_open g1
    obtain ⟨o, ho⟩ := isRx_of hrs
    exact ⟨⟨c0, a, l, c, k, o⟩, rfl, ho, hrs.2.1⟩
theorem tkns_open {a : Option Addr} {len cap : Nat} {x : DataW H × List MemPlace} (h : DataW.trod enc Try.prog W 0 (fun _ => true) true fuel 39 [.slice a len cap] = some x) : ∃ ts, TkAny W a len ts := by
  obtain ⟨os, ho, hg, _⟩ := crow_open (C := tknC) (G := fun o => IsRx W o.ra o.rl o.o ∧ o.rl ≤ 9223372036854775807) Try.underlying39 cells_tok (by decide) (fun n cs y hy hl => tkn_open hy hl) h
  exact ⟨os, ho, hg⟩
end
/-- Few tokens, of few steps. -/
def tsum (ts : List TkN) : Nat := (ts.map fun o => min o.rl 1000).sum
theorem tsum_take {ts : List TkN} {k : Nat} {o : TkN} (h : ts[k]? = some o) : tsum (ts.take (k + 1)) = tsum (ts.take k) + min o.rl 1000 := by
  unfold tsum; rw [List.take_add_one, h]; simp
theorem tsum_le (ts : List TkN) (k : Nat) : tsum (ts.take k) ≤ 1000 * k := by
  have : ∀ (l : List TkN), tsum l ≤ 1000 * l.length := by
    intro l
    induction l with
    | nil => simp [tsum]
    | cons o l ih =>
      have e : tsum (o :: l) = min o.rl 1000 + tsum l := by simp [tsum]
      rw [e, List.length_cons]; omega
  have h1 := this (ts.take k)
  have h2 : (ts.take k).length ≤ k := List.length_take_le _ _
  omega
theorem tsum_mem {ts : List TkN} (h : tsum ts ≤ 90) : ∀ t ∈ ts, t.rl ≤ 90 := by
  induction ts with
  | nil => intro t ht; cases ht
  | cons o l ih =>
    have e : tsum (o :: l) = min o.rl 1000 + tsum l := by simp [tsum]
    rw [e] at h
    intro t ht
    rcases List.mem_cons.1 ht with rfl | ht
    · omega
    · exact ih (by omega) t ht
def fewT (ts : List TkN) : Bool := decide (ts.length ≤ 12) && decide (tsum ts ≤ 90)
theorem few_row {w : World} {a : Option Addr} {n : Nat} {ts : List TkN} (h : TkAny w a n ts) (hf : fewT ts = true) : TkRow w a n ts ∧ n ≤ 12 := by
  unfold fewT at hf
  simp only [Bool.and_eq_true, decide_eq_true_eq] at hf
  have h1 := h.1.1
  exact ⟨⟨h.1, fun t ht => ⟨(h.2 t ht).1, by have := tsum_mem hf.2 t ht; omega⟩⟩, by omega⟩
set_option maxHeartbeats 2000000 in
theorem few_any (w : World) (A : Option Addr) (n d : Nat) (ts : List TkN) (hA : TkAny w A n ts) :
    Calls Try.prog 13 #[.slice A n d] w fun e w' => e = .returned (.bool (fewT ts)) ∧ w' = w := by
  have hl2 := hA.1.2.1
  have HA := Lib.hid hA
  have HL := Lib.hid hA.1.1
  clear hA
  go_enter Try.func13, Try.ntmps13
  go_wp2
  go_loop [3, 4] (fun m i => ∃ (k : Nat) (x : Int), k ≤ n ∧ i = .int .i64 k ∧ m = .int .i64 x ∧ (k ≤ 100 → x = (tsum (ts.take k) : Nat))) (fun _ i => n - (intOf i).toNat)
  case atStart => exact ⟨0, 0, by omega, rfl, rfl, fun _ => rfl⟩
  case round =>
    obtain ⟨k, x, hk, rfl, rfl, hx⟩ := hrel
    have HX := Lib.hid hx
    clear hx
    by_cases hlt : k < n
    · obtain ⟨b1, o1, o, rfl, hbl, ho, hc⟩ := HA.out.1.at_ hlt
      have HST := Lib.hid (tsum_take ho)
      have HML := Lib.hid (tsum_le ts k)
      have HOM := Lib.hid (HA.out.2 o (List.mem_of_getElem? ho)).2
      obtain ⟨onm, oa, ol, oc, ocl, oo⟩ := o
      have c0 : w.cell? ⟨b1, o1 + k * 3 + 1, none⟩ = some (.slice oa ol oc) := hc 1 _ rfl
      dsimp only at HST HOM
      clear hc ho
      go_wp2
      go_round
      case rel =>
        refine ⟨k + 1, _, by omega, by go_num, rfl, fun h => ?_⟩
        have h1 := HX.out (by omega)
        have h2 := HML.out
        rw [HST.out]
        subst h1
        have := HOM.out
        by_cases hc : (1000 : Int) < (ol : Int)
        · rw [if_pos hc, Nat.min_eq_right (by omega)]; unfold wrap64; omega
        · rw [if_neg hc, Nat.min_eq_left (by omega)]; unfold wrap64; omega
      case measure => simp [intOf]; omega
    · have HK : Hid (ts.take k = ts) := by show _ = _; exact List.take_of_length_le (by rw [HL.out]; omega)
      by_cases h100 : n ≤ 12
      · have h1 := HX.out (by omega)
        rw [HK.out] at h1
        subst h1
        have j1 : decide ((n : Int) ≤ 12) = true := decide_eq_true (by omega)
        go_wp2
        go_ret
        refine ⟨ret_bool ?_, rfl⟩
        unfold fewT
        rw [HL.out]
        simp [h100]
        omega
      · have j1 : decide ((n : Int) ≤ 12) = false := decide_eq_false (by omega)
        have HF : Hid (fewT ts = false) := Lib.hid (by unfold fewT; rw [HL.out]; simp [h100])
        go_wp2
        go_ret
        exact ⟨ret_bool HF.out.symm, rfl⟩
end Go.Proofs.Ytmkgipoljbiocaa
/- A net that is right has short lists; is this a small net? -/
namespace Go.Proofs.Ytmkgipoljbiocaa
open Go.RowKit
set_option linter.unusedVariables false
set_option linter.unusedSimpArgs false

theorem pw_len2 (n : Int) : ∀ (l : List Int) (a : Int), l.Pairwise (· < ·) → (∀ z ∈ l, a ≤ z ∧ z < n) → a ≤ n → (l.length : Int) ≤ n - a := by
  intro l
  induction l with
  | nil => intro a _ _ ha; simp; omega
  | cons x l ih =>
    intro a hp hb ha
    obtain ⟨h1, h2⟩ := List.pairwise_cons.1 hp
    have hx := hb x (.head _)
    have := ih (x + 1) h2 (fun z hz => by have h3 := h1 z hz; have h4 := hb z (.tail _ hz); omega) (by omega)
    rw [List.length_cons]; push_cast; omega
theorem spots_len {N : NetS} {l : List Int} (h : spotsB N l = true) : l.length ≤ N.sets.length := by
  unfold spotsB at h
  simp only [Bool.and_eq_true, List.all_eq_true, decide_eq_true_eq] at h
  have := pw_len2 (N.sets.length : Int) l 0 ((ris_pw _).1 h.2) (fun z hz => h.1 z hz) (by omega)
  omega
theorem netR_short {N : NetS} (h : netR N = true) : N.first.length ≤ N.sets.length ∧ ∀ l ∈ N.fol, l.length ≤ N.sets.length := by
  have hl := netR_len h
  unfold netR at h
  simp only [Bool.and_eq_true, List.all_eq_true, List.mem_range] at h
  refine ⟨spots_len h.2.1, fun l hl2 => ?_⟩
  obtain ⟨i, hi⟩ := List.getElem?_of_mem hl2
  have := h.2.2 i (by have := (List.getElem?_eq_some_iff.1 hi).1; omega)
  unfold rowOk spotsO at this
  rw [hi] at this
  simp only [Bool.and_eq_true] at this
  exact spots_len this.2
def smallR (fn : Nat) (e : Ending) : Prop := ∃ b : Bool, e = .returned (.bool b) ∧ (b = true → fn ≤ 30)
set_option maxHeartbeats 4000000 in
set_option maxRecDepth 100000 in
theorem netsmall_any (w : World) (v : Nv) (N : NetS) (hv : NetAt w v N) :
    Calls Try.prog 7 #[.agg (netA v)] w fun e w' => smallR v.fn e ∧ Below w.heap.size w w' := by
  have HV := Lib.hid hv
  have hfn := hv.f.len.2
  have hrn := hv.r.2.1
  have hon := hv.o.2.1
  have hln := hv.l.2.1
  have hsn := hv.s.2.1
  obtain ⟨g, hg⟩ : ∃ g, w.heap.size = g := ⟨_, rfl⟩
  have HG := Lib.hid hg
  obtain ⟨W1, hW1, hs1, hb1, hx1⟩ := box_net hg v
  have HW1 := Lib.hid hW1
  have HB1 := Lib.hid hb1
  have HS1 := Lib.hid hs1
  have HX1 := Lib.hid hx1
  obtain ⟨n0, n1, n2, n3, n4⟩ := netC (W := W1) (g := g) (v := v) hx1
  rw [hW1] at n0 n1 n2 n3 n4
  clear hv hb1 hs1 hx1
  go_enter Try.func7, Try.ntmps7
  go_wp2
  rw [← hW1]
  clear hW1 n0 n1 n2 n3 n4
  go_loopw [3, 4] (fun nv iv wr => ∃ (k : Nat) (z : Int), k ≤ v.fn ∧ iv = .int .i64 (k : Int) ∧ nv = .int .i64 z ∧ Below (g + 1) W1 wr) (fun _ i _ => v.fn - (intOf i).toNat)
  case atStart => exact ⟨0, _, by omega, rfl, rfl, Below.refl _ _⟩
  case round =>
    obtain ⟨k, z, hk, rfl, rfl, hb⟩ := hrel
    have HB := Lib.hid hb
    have HT := Lib.hid (HB1.out.trans (hb.mono (by omega)))
    obtain ⟨n0, n1, n2, n3, n4⟩ := netC (W := wr) (g := g) (v := v) ((hb.block g (by omega)).trans HX1.out)
    clear hb
    by_cases hlt : k < v.fn
    · obtain ⟨b1, off, l, ha, hbl, hl, A, cc, hc, hr⟩ := (HV.out.f.below (by rw [HG.out]; exact HT.out)).at_ hlt
      rw [ha] at n3
      have z0 : (0 : Int) ≤ (k : Int) := by omega
      have z1 : (k : Int) < (v.fn : Int) := by omega
      clear hr hl ha
      go_wp2
      go_roundw
      case rel => exact ⟨k + 1, _, by omega, by go_num, rfl, HB.out⟩
      case measure => simp [intOf]; omega
    · have z1 : ¬ (k : Int) < (v.fn : Int) := by omega
      by_cases h30 : v.fn ≤ 30
      · have z2 : (v.fn : Int) ≤ 30 := by omega
        go_wp2
        go_ret
        exact ⟨⟨_, rfl, fun _ => h30⟩, by first | exact HT.out | (rw [HG.out]; exact HT.out)⟩
      · have z2 : ¬ (v.fn : Int) ≤ 30 := by omega
        go_wp2
        go_ret
        exact ⟨⟨false, rfl, fun h => by cases h⟩, by first | exact HT.out | (rw [HG.out]; exact HT.out)⟩
end Go.Proofs.Ytmkgipoljbiocaa
/- What the table of a net is: it is right; how many states it may have. -/
namespace Go.Proofs.Ytmkgipoljbiocaa
open Go.RowKit
set_option linter.unusedVariables false

theorem tokZ_ge {N : NetS} (h : netR N = true) {t z : Int} (ht : -1 ≤ t) : -1 ≤ tokZ N t z := by
  unfold tokZ
  split
  · rename_i hc
    have hl := netR_len h
    have hz : z.toNat < N.of.length := by omega
    rw [List.getElem?_eq_getElem hz, Option.getD_some]
    have := tok_range h (List.getElem?_eq_getElem hz)
    omega
  · exact ht
theorem tokenL_ge (N : NetS) (xs : List Int) : -1 ≤ tokenL N xs := by
  unfold tokenL
  split
  · rename_i h
    have : ∀ (l : List Int) (t : Int), -1 ≤ t → -1 ≤ l.foldl (tokZ N) t := by
      intro l
      induction l with
      | nil => intro t ht; exact ht
      | cons x l ih => intro t ht; exact ih _ (tokZ_ge h ht)
    exact this xs (-1) (by omega)
  · omega
theorem atF_range (f : List (List Int)) (t : List Int) : -1 ≤ atF f t ∧ atF f t < (putF f t).length := by
  have hf := findL_ge f t
  unfold atF putF
  split
  · exact ⟨by omega, by omega⟩
  · split
    · rw [List.length_append]; exact ⟨by omega, by simp; omega⟩
    · exact ⟨by omega, by omega⟩
theorem inner_row {N : NetS} {most : Nat} {x : List Int} {i : Nat} {f0 : List (List Int)} : ∀ (c : Nat) {f : List (List Int)} {r : List Int}, innerUp N most x i f0 c = some (f, r) → f0.length ≤ f.length ∧ r.length = c ∧ ∀ z ∈ r, -1 ≤ z ∧ z < (f.length : Int) := by
  intro c
  induction c with
  | zero => intro f r h; simp [innerUp] at h; obtain ⟨rfl, rfl⟩ := h; exact ⟨Nat.le_refl _, rfl, fun z hz => by cases hz⟩
  | succ c ih =>
    intro f r h
    simp only [innerUp] at h
    split at h
    · cases h
    · rename_i f1 r1 h1
      split at h
      · cases h
      · simp only [Option.some.injEq, Prod.mk.injEq] at h
        obtain ⟨rfl, rfl⟩ := h
        obtain ⟨e1, e2, e3⟩ := ih h1
        obtain ⟨p1, p2, _⟩ := putF_pre f1 (toL N x i c)
        refine ⟨by omega, by simp [e2], fun z hz => ?_⟩
        rcases List.mem_append.1 hz with hz | hz
        · have := e3 z hz; omega
        · rw [List.mem_singleton] at hz; subst hz; exact atF_range _ _
/-- What holds of the table under way. -/
structure OutI (N : NetS) (most i : Nat) (f nx : List (List Int)) (lb : List Int) : Prop where
  good : GoodF N most f
  ll : lb.length = nx.length
  st : (nx.length = i ∧ i ≤ f.length) ∨ (nx.length = f.length ∧ f.length ≤ i)
  rows : ∀ r ∈ nx, r.length = widN N ∧ ∀ z ∈ r, -1 ≤ z ∧ z < (f.length : Int)
  labs : ∀ z ∈ lb, -1 ≤ z
theorem outer_inv {N : NetS} {most : Nat} (hm : 1 ≤ most) : ∀ (i : Nat) {f nx : List (List Int)} {lb : List Int}, outerUp N most i = some (f, nx, lb) → OutI N most i f nx lb := by
  intro i
  induction i with
  | zero =>
    intro f nx lb h
    simp [outerUp] at h
    obtain ⟨rfl, rfl, rfl⟩ := h
    exact ⟨⟨by simp, by simp; omega, by simp⟩, rfl, .inl ⟨rfl, by simp⟩, by simp, by simp⟩
  | succ i ih =>
    intro f nx lb h
    simp only [outerUp] at h
    split at h
    · cases h
    · rename_i f1 nx1 lb1 h1
      have I := ih h1
      split at h
      · rename_i hx
        simp only [Option.some.injEq, Prod.mk.injEq] at h
        obtain ⟨rfl, rfl, rfl⟩ := h
        have hle := List.getElem?_eq_none_iff.1 hx
        refine ⟨I.good, I.ll, ?_, I.rows, I.labs⟩
        rcases I.st with ⟨h1, h2⟩ | ⟨h1, h2⟩
        · exact .inr ⟨by omega, by omega⟩
        · exact .inr ⟨h1, by omega⟩
      · rename_i x hx
        have hlt := (List.getElem?_eq_some_iff.1 hx).1
        split at h
        · cases h
        · rename_i f2 r h2
          simp only [Option.some.injEq, Prod.mk.injEq] at h
          obtain ⟨rfl, rfl, rfl⟩ := h
          obtain ⟨g1, _, _, _⟩ := inner_good I.good _ h2
          obtain ⟨r1, r2, r3⟩ := inner_row _ h2
          refine ⟨g1, by simp [I.ll], ?_, fun q hq => ?_, fun z hz => ?_⟩
          · rcases I.st with ⟨h3, h4⟩ | ⟨h3, h4⟩
            · exact .inl ⟨by simp [h3], by omega⟩
            · omega
          · rcases List.mem_append.1 hq with hq | hq
            · obtain ⟨a, b⟩ := I.rows q hq
              exact ⟨a, fun z hz => by have := b z hz; omega⟩
            · rw [List.mem_singleton] at hq; subst hq; exact ⟨r2, r3⟩
          · rcases List.mem_append.1 hz with hz | hz
            · exact I.labs z hz
            · rw [List.mem_singleton] at hz; subst hz; exact tokenL_ge _ _
/-- At the end every state has its row. -/
theorem outer_full {N : NetS} {most : Nat} (hm : 1 ≤ most) {f nx : List (List Int)} {lb : List Int} (h : outerUp N most (most + 1) = some (f, nx, lb)) : nx.length = f.length := by
  have I := outer_inv hm _ h
  have := I.good.2.1
  rcases I.st with h | h <;> omega
theorem right_clsL' (ls : List (Nat → Bool)) : rightB (clsL ls) = true := by
  rw [rightB_iff]
  intro b hb
  unfold clsL
  exact cls_congr (N := 256) (fun x y _ _ => cls_eq_iff (sigL ls) x y) hb
theorem tab_right {N : NetS} {most : Nat} (hm : 1 ≤ most) {f nx : List (List Int)} {lb : List Int} (h : outerUp N most (most + 1) = some (f, nx, lb)) : rightM ⟨clsL N.sets, (widN N : Int), nx, lb⟩ = true := by
  have I := outer_inv hm _ h
  have hf := outer_full hm h
  have h1 := I.good.1
  rw [rightM_yes (M := ⟨clsL N.sets, (widN N : Int), nx, lb⟩) (by show 0 < nx.length; omega) I.ll (right_clsL' _) (by show ((widthC (clsL N.sets) 256 : Nat) : Int) = _; rw [show widthC (clsL N.sets) 256 = widN N from width_cls _ _])]
  rw [List.all_eq_true]
  intro i hi
  have hi : i < nx.length := List.mem_range.1 hi
  unfold rowGood
  show ((match nx[i]? with | some r => decide ((r.length : Int) = (widN N : Int)) && r.all (stOk nx.length) | none => false) && (match lb[i]? with | some z => decide (-1 ≤ z) | none => false)) = true
  have hi2 : i < lb.length := by rw [I.ll]; exact hi
  rw [List.getElem?_eq_getElem hi, List.getElem?_eq_getElem hi2]
  obtain ⟨a, b⟩ := I.rows _ (List.getElem_mem hi)
  simp only [Bool.and_eq_true, decide_eq_true_eq, List.all_eq_true]
  refine ⟨⟨by rw [a], fun z hz => ?_⟩, I.labs _ (List.getElem_mem hi2)⟩
  have := b z hz
  unfold stOk
  simp only [Bool.and_eq_true, decide_eq_true_eq]
  rw [hf]; exact this
/-- A table that is told is right. -/
theorem build_right {N : NetS} {most : Int} (h : (buildR N most).2.2 = 0) : rightM (buildR N most).1 = true ∧ (buildR N most).2.1 = ((buildR N most).1.nx.length : Int) := by
  unfold buildR at h ⊢
  split at h
  · cases h
  · rename_i h1
    rw [if_neg h1]
    split at h
    · cases h
    · rename_i h2
      rw [if_neg h2]
      cases ho : outerUp N most.toNat (most.toNat + 1) with
      | none => rw [ho] at h; cases h
      | some q =>
        obtain ⟨f, nx, lb⟩ := q
        exact ⟨tab_right (by omega) ho, by show (f.length : Int) = (nx.length : Int); rw [outer_full (by omega) ho]⟩
theorem build_errs (N : NetS) (most : Int) : (buildR N most).2.2 = 0 ∨ (buildR N most).1 = ms0 ∧ (buildR N most).2.1 = 0 := by
  unfold buildR
  split
  · exact .inr ⟨rfl, rfl⟩
  · split
    · exact .inr ⟨rfl, rfl⟩
    · cases outerUp N most.toNat (most.toNat + 1) with
      | none => exact .inr ⟨rfl, rfl⟩
      | some q => exact .inl rfl
theorem build_cl (N : NetS) (most : Int) (i : Nat) (hi : i < 256) : (buildR N most).1.cl i < 256 := by
  have hz : ms0.cl i < 256 := by show zeroC i < 256; unfold zeroC; omega
  unfold buildR
  split
  · exact hz
  · split
    · exact hz
    · cases outerUp N most.toNat (most.toNat + 1) with
      | none => exact hz
      | some q =>
        show clsL N.sets i < 256
        have h1 := cls_lt (sigL N.sets) hi
        have h2 := cnt_le (sigL N.sets) 256
        unfold clsL; omega
/-! ## How many states it may have. -/
theorem inner_most {N : NetS} {most m2 : Nat} {x : List Int} {i : Nat} {f0 : List (List Int)} : ∀ (c : Nat) {f : List (List Int)} {r : List Int}, innerUp N most x i f0 c = some (f, r) → f.length ≤ m2 → innerUp N m2 x i f0 c = some (f, r) := by
  intro c
  induction c with
  | zero => intro f r h _; exact h
  | succ c ih =>
    intro f r h hm
    simp only [innerUp] at h
    split at h
    · cases h
    · rename_i f1 r1 h1
      split at h
      · cases h
      · simp only [Option.some.injEq, Prod.mk.injEq] at h
        obtain ⟨rfl, rfl⟩ := h
        have hp := (putF_pre f1 (toL N x i c)).2.1
        simp only [innerUp]
        rw [ih h1 (by omega)]
        simp only
        rw [if_neg (by omega)]
theorem outer_grow {N : NetS} {most i : Nat} {f nx : List (List Int)} {lb : List Int} {x : List Int} {f2 : List (List Int)} {r : List Int} (h2 : innerUp N most x i f (widN N) = some (f2, r)) : f.length ≤ f2.length := (inner_row _ h2).1
theorem outer_most {N : NetS} {most m2 : Nat} : ∀ (i : Nat) {f nx : List (List Int)} {lb : List Int}, outerUp N most i = some (f, nx, lb) → f.length ≤ m2 → outerUp N m2 i = some (f, nx, lb) := by
  intro i
  induction i with
  | zero => intro f nx lb h _; exact h
  | succ i ih =>
    intro f nx lb h hm
    simp only [outerUp] at h
    split at h
    · cases h
    · rename_i f1 nx1 lb1 h1
      split at h
      · rename_i hx
        simp only [Option.some.injEq, Prod.mk.injEq] at h
        obtain ⟨rfl, rfl, rfl⟩ := h
        simp only [outerUp]
        rw [ih h1 hm]
        simp only
        rw [hx]
      · rename_i x hx
        split at h
        · cases h
        · rename_i f2 r h2
          simp only [Option.some.injEq, Prod.mk.injEq] at h
          obtain ⟨rfl, rfl, rfl⟩ := h
          have hg := (inner_row _ h2).1
          simp only [outerUp]
          rw [ih h1 (by omega)]
          simp only
          rw [hx]
          simp only
          rw [inner_most _ h2 hm]
/-- A table that ends under one bound ends so under any other that is not less than its states. -/
theorem outer_same {N : NetS} {m1 m2 : Nat} (h1 : 1 ≤ m1) (h2 : 1 ≤ m2) {f nx : List (List Int)} {lb : List Int} (h : outerUp N m1 (m1 + 1) = some (f, nx, lb)) (hf : f.length ≤ m2) : outerUp N m2 (m2 + 1) = some (f, nx, lb) := by
  have hm := (outer_inv h1 _ h).good.2.1
  have hend := outer_end h (by omega) (m2 + 1)
  rw [show m1 + 1 + (m2 + 1) = (m2 + 1) + (m1 + 1) by omega] at hend
  have h3 := outer_most _ hend hf
  cases ho : outerUp N m2 (m2 + 1) with
  | none => rw [outer_none ho] at h3; cases h3
  | some q =>
    obtain ⟨f', nx', lb'⟩ := q
    have hm' := (outer_inv h2 _ ho).good.2.1
    have := outer_end ho (by omega) (m1 + 1)
    rw [this] at h3; exact h3
theorem build_up {N : NetS} {m : Nat} (hN : netR N = true) (h1 : 1 ≤ m) (h2 : m ≤ 4096) : buildR N (m : Int) = tabR N (outerUp N m (m + 1)) := by
  unfold buildR
  rw [if_neg (by rw [hN]; decide), if_neg (by omega), Int.toNat_natCast]
/-- With as many states as there are it is the same; with one less there are too many; too many under a bound are too many under a lower one. -/
theorem build_bound {N : NetS} (hN : netR N = true) :
    (∀ k, buildR N 60 = k → k.2.2 = 0 → ∃ n : Nat, k.2.1 = (n : Int) ∧ 1 ≤ n ∧ n ≤ 60 ∧ n = k.1.nx.length ∧ buildR N (n : Int) = k ∧ (buildR N ((n : Int) - 1)).2.2 = if n = 1 then 2 else 16) ∧
    ((buildR N 60).2.2 ≠ 0 → (buildR N 60).2.2 = 16 ∧ ∀ m : Nat, 1 ≤ m → m ≤ 60 → (buildR N (m : Int)).2.2 = 16) := by
  have e60 : buildR N 60 = tabR N (outerUp N 60 61) := build_up hN (m := 60) (by omega) (by omega)
  constructor
  · intro k hk h0
    rw [e60] at hk
    cases ho : outerUp N 60 61 with
    | none => rw [ho] at hk; rw [← hk] at h0; cases h0
    | some q =>
      obtain ⟨f, nx, lb⟩ := q
      rw [ho] at hk
      subst hk
      have I := outer_inv (by omega) _ ho
      have hfl := outer_full (most := 60) (by omega) ho
      have g1 := I.good.1
      have g2 := I.good.2.1
      refine ⟨f.length, rfl, g1, g2, hfl.symm, ?_, ?_⟩
      · rw [build_up hN g1 (by omega), outer_same (by omega) g1 ho (Nat.le_refl _)]
      · by_cases h1 : f.length = 1
        · rw [if_pos h1, h1]
          unfold buildR
          rw [if_neg (by rw [hN]; decide), if_pos (by omega)]
        · rw [if_neg h1, show ((f.length : Nat) : Int) - 1 = ((f.length - 1 : Nat) : Int) by omega, build_up hN (by omega) (by omega)]
          cases ho2 : outerUp N (f.length - 1) (f.length - 1 + 1) with
          | none => rfl
          | some q =>
            obtain ⟨f', nx', lb'⟩ := q
            exfalso
            have hm' := (outer_inv (by omega) _ ho2).good.2.1
            have h3 := outer_same (m2 := 60) (by omega) (by omega) ho2 (by omega)
            rw [ho] at h3
            simp only [Option.some.injEq, Prod.mk.injEq] at h3
            have := congrArg List.length h3.1
            omega
  · intro h0
    rw [e60] at h0 ⊢
    cases ho : outerUp N 60 61 with
    | some q => rw [ho] at h0; exact absurd rfl h0
    | none =>
      refine ⟨rfl, fun m h1 h2 => ?_⟩
      rw [build_up hN h1 (by omega)]
      cases ho2 : outerUp N m (m + 1) with
      | none => rfl
      | some q =>
        obtain ⟨f', nx', lb'⟩ := q
        exfalso
        have hm' := (outer_inv h1 _ ho2).good.2.1
        have h3 := outer_same (m2 := 60) h1 (by omega) ho2 (by omega)
        rw [ho] at h3; cases h3
end Go.Proofs.Ytmkgipoljbiocaa
/- The net of tokens is right. -/
namespace Go.Proofs.Ytmkgipoljbiocaa
open Go.RowKit
set_option linter.unusedVariables false

theorem pw_app {l m : List Int} {b : Int} (h1 : l.Pairwise (· < ·)) (h2 : m.Pairwise (· < ·)) (hl : ∀ x ∈ l, x < b) (hm : ∀ x ∈ m, b ≤ x) : (l ++ m).Pairwise (· < ·) :=
  List.pairwise_append.2 ⟨h1, h2, fun a ha c hc => by have := hl a ha; have := hm c hc; omega⟩
theorem endsT_pw (last : Bool) : ∀ (T : RxT) (base : Nat), (endsT last T base).Pairwise (· < ·) := by
  intro T
  induction T with
  | set S => intro b; simp [endsT]
  | empty => intro b; simp [endsT]
  | cat a b iha ihb =>
    intro base
    simp only [endsT]
    split
    · exact ihb _
    · split
      · exact iha _
      · exact pw_app (b := ((base + nSet a : Nat) : Int)) (iha _) (ihb _) (fun x hx => by have := endsT_range last a base x hx; push_cast; omega) (fun x hx => (endsT_range last b _ x hx).1)
  | alt a b iha ihb =>
    intro base
    exact pw_app (b := ((base + nSet a : Nat) : Int)) (iha _) (ihb _) (fun x hx => by have := endsT_range last a base x hx; push_cast; omega) (fun x hx => (endsT_range last b _ x hx).1)
  | star a iha => exact iha
  | plus a iha => exact iha
  | opt a iha => exact iha
theorem endsL_pw (last : Bool) (o : Option RxT) : (endsL last o).Pairwise (· < ·) := by
  cases o with
  | none => simp [endsL]
  | some T => exact endsT_pw last T 0
theorem folL_pw (o : Option RxT) (i : Nat) : (folL o i).Pairwise (· < ·) := by
  cases o with
  | none => simp [folL]
  | some T =>
    unfold folL folUp
    rw [List.pairwise_map]
    refine (List.Pairwise.filter _ (List.pairwise_lt_range)).imp fun h => ?_
    omega
theorem pw_shift {l : List Int} (b : Int) (h : l.Pairwise (· < ·)) : (l.map (· + b)).Pairwise (· < ·) := by
  rw [List.pairwise_map]
  exact h.imp fun h => by omega
/-- What holds of a net under way. -/
structure NI (N : NetS) : Prop where
  lo : N.of.length = N.sets.length
  ll : N.last.length = N.sets.length
  lf : N.fol.length = N.sets.length
  nn : ∀ z ∈ N.of, 0 ≤ z
  fr : (∀ z ∈ N.first, 0 ≤ z ∧ z < (N.sets.length : Int)) ∧ N.first.Pairwise (· < ·)
  fl : ∀ l ∈ N.fol, (∀ z ∈ l, 0 ≤ z ∧ z < (N.sets.length : Int)) ∧ l.Pairwise (· < ·)
theorem NI.tok {N : NetS} (h : NI N) (t : Nat) (o : Option RxT) : NI (addTok N t o) := by
  have hs : (addTok N t o).sets.length = N.sets.length + (setsL o).length := by
    show (N.sets ++ (setsL o).take (setsL o).length).length = _
    simp
  refine ⟨?_, ?_, ?_, fun z hz => ?_, ⟨fun z hz => ?_, ?_⟩, fun l hl => ?_⟩
  · rw [hs, ← h.lo]; show (N.of ++ _).length = _; simp
  · rw [hs, ← h.ll]; show (N.last ++ _).length = _; simp
  · rw [hs, ← h.lf]; show (N.fol ++ _).length = _; simp
  · have hz : z ∈ N.of ++ (List.range (setsL o).length).map (fun _ => (t : Int)) := hz
    rcases List.mem_append.1 hz with h1 | h1
    · exact h.nn z h1
    · obtain ⟨_, _, rfl⟩ := List.mem_map.1 h1; omega
  · rw [hs]
    have hz : z ∈ N.first ++ (endsL false o).map (· + (N.sets.length : Int)) := hz
    rcases List.mem_append.1 hz with h1 | h1
    · have := h.fr.1 z h1; push_cast; omega
    · obtain ⟨y, hy, rfl⟩ := List.mem_map.1 h1
      have := endsL_range false o y hy; push_cast; omega
  · show (N.first ++ (endsL false o).map (· + (N.sets.length : Int))).Pairwise _
    exact pw_app (b := (N.sets.length : Int)) h.fr.2 (pw_shift _ (endsL_pw false o)) (fun x hx => (h.fr.1 x hx).2) (fun x hx => by
      obtain ⟨y, hy, rfl⟩ := List.mem_map.1 hx
      have := endsL_range false o y hy; omega)
  · rw [hs]
    have hl : l ∈ N.fol ++ (List.range (setsL o).length).map (fun (i : Nat) => (folL o i).map (· + (N.sets.length : Int))) := hl
    rcases List.mem_append.1 hl with h1 | h1
    · obtain ⟨a, b⟩ := h.fl l h1
      exact ⟨fun z hz => by have := a z hz; push_cast; omega, b⟩
    · obtain ⟨i, _, rfl⟩ := List.mem_map.1 h1
      refine ⟨fun z hz => ?_, pw_shift _ (folL_pw o i)⟩
      obtain ⟨y, hy, rfl⟩ := List.mem_map.1 hz
      have := folL_range o i y hy; push_cast; omega
theorem fuse_ni (os : List (Option RxT)) : ∀ k, NI (fuseUp os k) := by
  intro k
  induction k with
  | zero => exact ⟨rfl, rfl, rfl, by simp [fuseUp, net0], ⟨by simp [fuseUp, net0], by simp [fuseUp, net0]⟩, by simp [fuseUp, net0]⟩
  | succ k ih => exact ih.tok k _
theorem NI.spots {N : NetS} {l : List Int} (h : (∀ z ∈ l, 0 ≤ z ∧ z < (N.sets.length : Int)) ∧ l.Pairwise (· < ·)) : spotsB N l = true := by
  unfold spotsB
  simp only [Bool.and_eq_true, List.all_eq_true, decide_eq_true_eq]
  exact ⟨h.1, (ris_pw _).2 h.2⟩
theorem NI.right {N : NetS} (h : NI N) : netR N = true := by
  unfold netR
  simp only [Bool.and_eq_true, decide_eq_true_eq, List.all_eq_true, List.mem_range]
  refine ⟨⟨⟨h.lo, h.ll⟩, h.lf⟩, NI.spots h.fr, fun i hi => ?_⟩
  unfold rowOk nonneg spotsO
  rw [List.getElem?_eq_getElem (show i < N.of.length by rw [h.lo]; exact hi), List.getElem?_eq_getElem (show i < N.fol.length by rw [h.lf]; exact hi)]
  simp only [Bool.and_eq_true, decide_eq_true_eq]
  exact ⟨h.nn _ (List.getElem_mem _), NI.spots (h.fl _ (List.getElem_mem _))⟩
theorem netR_fuse (os : List (Option RxT)) : netR (fuseN os) = true := (fuse_ni os _).right
end Go.Proofs.Ytmkgipoljbiocaa
/- The words of an expression. -/
namespace Go.Proofs.Ytmkgipoljbiocaa
set_option linter.unusedVariables false
/-- Words of a language, one behind the other. -/
inductive Rep (L : List UInt8 → Prop) : List UInt8 → Prop where
  | nil : Rep L []
  | cons (u v : List UInt8) (hu : L u) (hv : Rep L v) : Rep L (u ++ v)
def inT : RxT → List UInt8 → Prop
  | .set S, w => ∃ c, w = [c] ∧ S c.toNat = true
  | .empty, w => w = []
  | .cat a b, w => ∃ u v, w = u ++ v ∧ inT a u ∧ inT b v
  | .alt a b, w => inT a w ∨ inT b w
  | .star a, w => Rep (inT a) w
  | .plus a, w => ∃ u v, w = u ++ v ∧ inT a u ∧ Rep (inT a) v
  | .opt a, w => w = [] ∨ inT a w
theorem freeT_iff (T : RxT) : freeT T = true ↔ inT T [] := by
  induction T with
  | set S => simp [freeT, inT]
  | empty => simp [freeT, inT]
  | cat a b iha ihb =>
    simp only [freeT, inT, Bool.and_eq_true, iha, ihb]
    constructor
    · rintro ⟨h1, h2⟩; exact ⟨[], [], rfl, h1, h2⟩
    · rintro ⟨u, v, e, h1, h2⟩
      obtain ⟨rfl, rfl⟩ := List.append_eq_nil_iff.1 e.symm
      exact ⟨h1, h2⟩
  | alt a b iha ihb => simp only [freeT, inT, Bool.or_eq_true, iha, ihb]
  | star a iha => simp only [freeT, inT, true_iff]; exact .nil
  | plus a iha =>
    simp only [freeT, inT, iha]
    constructor
    · intro h; exact ⟨[], [], rfl, h, .nil⟩
    · rintro ⟨u, v, e, h1, h2⟩
      obtain ⟨rfl, rfl⟩ := List.append_eq_nil_iff.1 e.symm
      exact h1
  | opt a iha => simp [freeT, inT]
/-- May a spot stand behind another one? -/
def folR : RxT → Nat → Int → Int → Prop
  | .set _, _, _, _ => False
  | .empty, _, _, _ => False
  | .cat a b, base, x, y => folR a base x y ∨ folR b (base + nSet a) x y ∨ (x ∈ endsT true a base ∧ y ∈ endsT false b (base + nSet a))
  | .alt a b, base, x, y => folR a base x y ∨ folR b (base + nSet a) x y
  | .star a, base, x, y => folR a base x y ∨ (x ∈ endsT true a base ∧ y ∈ endsT false a base)
  | .plus a, base, x, y => folR a base x y ∨ (x ∈ endsT true a base ∧ y ∈ endsT false a base)
  | .opt a, base, x, y => folR a base x y
theorem fol_any (T : RxT) : ∀ (base : Nat) (x y : Int), ((partsT base T).any fun p => condTop p.1 p.2 x y) = true ↔ folR T base x y := by
  induction T with
  | set S => intro b x y; simp [partsT, condTop, folR]
  | empty => intro b x y; simp [partsT, condTop, folR]
  | cat a b iha ihb => intro base x y; simp only [partsT, List.any_append, Bool.or_eq_true, iha, ihb, folR]; simp [condTop]
  | alt a b iha ihb => intro base x y; simp only [partsT, List.any_append, Bool.or_eq_true, iha, ihb, folR]; simp [condTop]
  | star a iha => intro base x y; simp only [partsT, List.any_append, Bool.or_eq_true, iha, folR]; simp [condTop]
  | plus a iha => intro base x y; simp only [partsT, List.any_append, Bool.or_eq_true, iha, folR]; simp [condTop]
  | opt a iha => intro base x y; simp only [partsT, List.any_append, Bool.or_eq_true, iha, folR]; simp [condTop]
theorem follows_iff (T : RxT) (x y : Int) : followsT T x y = true ↔ folR T 0 x y := fol_any T 0 x y
theorem folR_range (T : RxT) : ∀ (base : Nat) (x y : Int), folR T base x y → ((base : Int) ≤ x ∧ x < (base : Int) + nSet T) ∧ ((base : Int) ≤ y ∧ y < (base : Int) + nSet T) := by
  induction T with
  | set S => intro b x y h; exact h.elim
  | empty => intro b x y h; exact h.elim
  | cat a b iha ihb =>
    intro base x y h
    simp only [nSet]
    rcases h with h | h | ⟨h1, h2⟩
    · have := iha _ _ _ h; push_cast; omega
    · have := ihb _ _ _ h; push_cast at this ⊢; omega
    · have h3 := endsT_range true a base x h1; have h4 := endsT_range false b _ y h2; push_cast at h4 ⊢; omega
  | alt a b iha ihb =>
    intro base x y h
    simp only [nSet]
    rcases h with h | h
    · have := iha _ _ _ h; push_cast; omega
    · have := ihb _ _ _ h; push_cast at this ⊢; omega
  | star a iha =>
    intro base x y h
    rcases h with h | ⟨h1, h2⟩
    · exact iha _ _ _ h
    · exact ⟨endsT_range true a base x h1, endsT_range false a base y h2⟩
  | plus a iha =>
    intro base x y h
    rcases h with h | ⟨h1, h2⟩
    · exact iha _ _ _ h
    · exact ⟨endsT_range true a base x h1, endsT_range false a base y h2⟩
  | opt a iha => intro base x y h; exact iha _ _ _ h
/-- From a spot to a spot by a word. -/
def Pth (lt : Int → UInt8 → Prop) (R : Int → Int → Prop) : Int → List UInt8 → Int → Prop
  | x, [], y => x = y
  | x, c :: w, y => ∃ z, R x z ∧ lt z c ∧ Pth lt R z w y
theorem Pth.mono {lt : Int → UInt8 → Prop} {R R' : Int → Int → Prop} (h : ∀ x y, R x y → R' x y) : ∀ (w : List UInt8) (x y : Int), Pth lt R x w y → Pth lt R' x w y
  | [], x, y, hp => hp
  | c :: w, x, y, ⟨z, h1, h2, h3⟩ => ⟨z, h x z h1, h2, Pth.mono h w z y h3⟩
theorem Pth.app {lt : Int → UInt8 → Prop} {R : Int → Int → Prop} : ∀ (u v : List UInt8) (x m y : Int), Pth lt R x u m → Pth lt R m v y → Pth lt R x (u ++ v) y
  | [], v, x, m, y, h1, h2 => by cases h1; exact h2
  | c :: u, v, x, m, y, ⟨z, a, b, d⟩, h2 => ⟨z, a, b, Pth.app u v z m y d h2⟩
/-- A path through more edges: it takes none of them, or there is a first one. -/
theorem Pth.split {lt : Int → UInt8 → Prop} {R E : Int → Int → Prop} : ∀ (w : List UInt8) (x y : Int), Pth lt (fun a b => R a b ∨ E a b) x w y →
    Pth lt R x w y ∨ ∃ u d v m z, w = u ++ d :: v ∧ Pth lt R x u m ∧ E m z ∧ lt z d ∧ Pth lt (fun a b => R a b ∨ E a b) z v y
  | [], x, y, h => .inl h
  | c :: w, x, y, ⟨z, h1, h2, h3⟩ => by
    rcases h1 with h1 | h1
    · rcases Pth.split w z y h3 with h4 | ⟨u, d, v, m, z', rfl, a, b, e, f⟩
      · exact .inl ⟨z, h1, h2, h4⟩
      · exact .inr ⟨c :: u, d, v, m, z', rfl, ⟨z, h1, h2, a⟩, b, e, f⟩
    · exact .inr ⟨[], c, w, x, z, rfl, rfl, h1, h2, h3⟩
end Go.Proofs.Ytmkgipoljbiocaa
/- The words of an expression are the words of its spots' paths. -/
namespace Go.Proofs.Ytmkgipoljbiocaa
set_option linter.unusedVariables false
theorem Pth.restrict {lt : Int → UInt8 → Prop} {R R' : Int → Int → Prop} {P : Int → Prop} (h : ∀ m z, P m → R m z → R' m z ∧ P z) : ∀ (w : List UInt8) (x y : Int), P x → Pth lt R x w y → Pth lt R' x w y ∧ P y
  | [], x, y, hp, e => by cases e; exact ⟨rfl, hp⟩
  | c :: w, x, y, hp, ⟨z, h1, h2, h3⟩ => by
    obtain ⟨a, b⟩ := h x z hp h1
    obtain ⟨d, e⟩ := Pth.restrict h w z y b h3
    exact ⟨⟨z, a, h2, d⟩, e⟩
def Fits (lt : Int → UInt8 → Prop) : RxT → Nat → Prop
  | .set S, base => ∀ c : UInt8, lt (base : Int) c ↔ S c.toNat = true
  | .empty, _ => True
  | .cat a b, base => Fits lt a base ∧ Fits lt b (base + nSet a)
  | .alt a b, base => Fits lt a base ∧ Fits lt b (base + nSet a)
  | .star a, base => Fits lt a base
  | .plus a, base => Fits lt a base
  | .opt a, base => Fits lt a base
def Acc (lt : Int → UInt8 → Prop) (T : RxT) (base : Nat) (c : UInt8) (w : List UInt8) : Prop :=
  ∃ x, x ∈ endsT false T base ∧ lt x c ∧ ∃ y, y ∈ endsT true T base ∧ Pth lt (folR T base) x w y
def InR (base n : Nat) (x : Int) : Prop := (base : Int) ≤ x ∧ x < (base : Int) + n
theorem stay_a {lt : Int → UInt8 → Prop} {a b : RxT} {base : Nat} {w : List UInt8} {x y : Int} (hx : InR base (nSet a) x) (h : Pth lt (fun x y => folR a base x y ∨ folR b (base + nSet a) x y) x w y) : Pth lt (folR a base) x w y ∧ InR base (nSet a) y := by
  refine Pth.restrict (P := InR base (nSet a)) (fun m z hm hr => ?_) w x y hx h
  rcases hr with hr | hr
  · exact ⟨hr, (folR_range a base m z hr).2⟩
  · have := (folR_range b _ m z hr).1
    unfold InR at hm; push_cast at this; omega
theorem stay_b {lt : Int → UInt8 → Prop} {a b : RxT} {base : Nat} {E : Int → Int → Prop} (hE : ∀ m z, E m z → InR base (nSet a) m) {w : List UInt8} {x y : Int} (hx : InR (base + nSet a) (nSet b) x) (h : Pth lt (fun x y => (folR a base x y ∨ folR b (base + nSet a) x y) ∨ E x y) x w y) : Pth lt (folR b (base + nSet a)) x w y ∧ InR (base + nSet a) (nSet b) y := by
  refine Pth.restrict (P := InR (base + nSet a) (nSet b)) (fun m z hm hr => ?_) w x y hx h
  unfold InR at hm
  rcases hr with (hr | hr) | hr
  · have := (folR_range a base m z hr).1; push_cast at hm; omega
  · exact ⟨hr, (folR_range b _ m z hr).2⟩
  · have := hE m z hr; unfold InR at this; push_cast at hm; omega
theorem ends_r {last : Bool} {T : RxT} {base : Nat} {x : Int} (h : x ∈ endsT last T base) : InR base (nSet T) x := endsT_range last T base x h
theorem acc_alt {lt : Int → UInt8 → Prop} {a b : RxT} {base : Nat} {c : UInt8} {w : List UInt8} : Acc lt (.alt a b) base c w ↔ Acc lt a base c w ∨ Acc lt b (base + nSet a) c w := by
  constructor
  · rintro ⟨x, hx, hl, y, hy, hp⟩
    simp only [endsT] at hx hy
    rcases List.mem_append.1 hx with hx | hx
    · obtain ⟨hq, hr⟩ := stay_a (ends_r hx) hp
      refine .inl ⟨x, hx, hl, y, ?_, hq⟩
      rcases List.mem_append.1 hy with hy | hy
      · exact hy
      · have := ends_r hy; unfold InR at this hr; push_cast at this; omega
    · obtain ⟨hq, hr⟩ := stay_b (E := fun _ _ => False) (fun _ _ h => h.elim) (ends_r hx) (Pth.mono (fun _ _ h => .inl h) _ _ _ hp)
      refine .inr ⟨x, hx, hl, y, ?_, hq⟩
      rcases List.mem_append.1 hy with hy | hy
      · have := ends_r hy; unfold InR at this hr; push_cast at hr; omega
      · exact hy
  · rintro (⟨x, hx, hl, y, hy, hp⟩ | ⟨x, hx, hl, y, hy, hp⟩)
    · exact ⟨x, List.mem_append_left _ hx, hl, y, List.mem_append_left _ hy, Pth.mono (fun _ _ h => .inl h) _ _ _ hp⟩
    · exact ⟨x, List.mem_append_right _ hx, hl, y, List.mem_append_right _ hy, Pth.mono (fun _ _ h => .inr h) _ _ _ hp⟩
theorem acc_set {lt : Int → UInt8 → Prop} {S : Nat → Bool} {base : Nat} (hf : Fits lt (.set S) base) {c : UInt8} {w : List UInt8} : Acc lt (.set S) base c w ↔ w = [] ∧ S c.toNat = true := by
  constructor
  · rintro ⟨x, hx, hl, y, hy, hp⟩
    simp only [endsT, List.mem_singleton] at hx hy
    subst hx
    cases w with
    | nil => exact ⟨rfl, (hf c).1 hl⟩
    | cons d w => obtain ⟨z, h, _⟩ := hp; exact h.elim
  · rintro ⟨rfl, h⟩
    exact ⟨base, by simp [endsT], (hf c).2 h, base, by simp [endsT], rfl⟩
/-- A loop: the part once, then again and again. -/
def LoopR (a : RxT) (base : Nat) (x y : Int) : Prop := folR a base x y ∨ (x ∈ endsT true a base ∧ y ∈ endsT false a base)
def AccL (lt : Int → UInt8 → Prop) (a : RxT) (base : Nat) (c : UInt8) (w : List UInt8) : Prop :=
  ∃ x, x ∈ endsT false a base ∧ lt x c ∧ ∃ y, y ∈ endsT true a base ∧ Pth lt (LoopR a base) x w y
def AccW (lt : Int → UInt8 → Prop) (a : RxT) (base : Nat) (w : List UInt8) : Prop := ∃ c u, w = c :: u ∧ Acc lt a base c u
theorem accL_to {lt : Int → UInt8 → Prop} {a : RxT} {base : Nat} : ∀ (n : Nat) (c : UInt8) (w : List UInt8), w.length ≤ n → AccL lt a base c w → ∃ u v, w = u ++ v ∧ Acc lt a base c u ∧ Rep (AccW lt a base) v := by
  intro n
  induction n with
  | zero =>
    rintro c w hw ⟨x, hx, hl, y, hy, hp⟩
    have e : w = [] := List.length_eq_zero_iff.1 (by omega)
    subst e
    exact ⟨[], [], rfl, ⟨x, hx, hl, y, hy, hp⟩, .nil⟩
  | succ n ih =>
    rintro c w hw ⟨x, hx, hl, y, hy, hp⟩
    rcases Pth.split w x y hp with h | ⟨u, d, v, m, z, rfl, h1, ⟨h2, h3⟩, h4, h5⟩
    · exact ⟨w, [], by simp, ⟨x, hx, hl, y, hy, h⟩, .nil⟩
    · obtain ⟨u2, v2, rfl, e1, e2⟩ := ih d v (by simp at hw; omega) ⟨z, h3, h4, y, hy, h5⟩
      exact ⟨u, d :: (u2 ++ v2), rfl, ⟨x, hx, hl, m, h2, h1⟩, Rep.cons (d :: u2) v2 ⟨d, u2, rfl, e1⟩ e2⟩
theorem accL_of {lt : Int → UInt8 → Prop} {a : RxT} {base : Nat} {v : List UInt8} (hv : Rep (AccW lt a base) v) : ∀ (c : UInt8) (u : List UInt8), Acc lt a base c u → AccL lt a base c (u ++ v) := by
  induction hv with
  | nil =>
    rintro c u ⟨x, hx, hl, y, hy, hp⟩
    rw [List.append_nil]
    exact ⟨x, hx, hl, y, hy, Pth.mono (fun _ _ h => .inl h) _ _ _ hp⟩
  | cons u' v' hu hv ih =>
    rintro c u ⟨x, hx, hl, y, hy, hp⟩
    obtain ⟨d, u2, rfl, ha⟩ := hu
    obtain ⟨z, hz, hlz, y2, hy2, hp2⟩ := ih d u2 ha
    exact ⟨x, hx, hl, y2, hy2, Pth.app u _ x y y2 (Pth.mono (fun _ _ h => .inl h) _ _ _ hp) ⟨z, .inr ⟨hy, hz⟩, hlz, hp2⟩⟩
theorem acc_cat {lt : Int → UInt8 → Prop} {a b : RxT} {base : Nat} {c : UInt8} {w : List UInt8} : Acc lt (.cat a b) base c w ↔
    (∃ u v, w = u ++ v ∧ Acc lt a base c u ∧ ((v = [] ∧ freeT b = true) ∨ ∃ d v', v = d :: v' ∧ Acc lt b (base + nSet a) d v')) ∨ (freeT a = true ∧ Acc lt b (base + nSet a) c w) := by
  have hE : ∀ m z, (m ∈ endsT true a base ∧ z ∈ endsT false b (base + nSet a)) → InR base (nSet a) m := fun m z h => ends_r h.1
  have re : ∀ x y, folR (.cat a b) base x y → (folR a base x y ∨ folR b (base + nSet a) x y) ∨ (x ∈ endsT true a base ∧ y ∈ endsT false b (base + nSet a)) := fun x y h => by
    rcases h with h | h | h
    · exact .inl (.inl h)
    · exact .inl (.inr h)
    · exact .inr h
  have lastb : ∀ y, InR (base + nSet a) (nSet b) y → y ∈ endsT true (.cat a b) base → y ∈ endsT true b (base + nSet a) := fun y hr hy => by
    simp only [endsT] at hy
    split at hy
    · exact hy
    · simp only [Bool.not_true, Bool.false_and, Bool.false_eq_true, if_false] at hy
      rcases List.mem_append.1 hy with h | h
      · have := ends_r h; unfold InR at this hr; push_cast at hr; omega
      · exact h
  have inb : ∀ y, y ∈ endsT true b (base + nSet a) → y ∈ endsT true (.cat a b) base := fun y hy => by
    simp only [endsT]
    split
    · exact hy
    · simp only [Bool.not_true, Bool.false_and, Bool.false_eq_true, if_false]
      exact List.mem_append_right _ hy
  constructor
  · rintro ⟨x, hx, hl, y, hy, hp⟩
    have hp' := Pth.mono re _ _ _ hp
    have hx' : x ∈ endsT false a base ∨ (freeT a = true ∧ x ∈ endsT false b (base + nSet a)) := by
      simp only [endsT, Bool.false_and, Bool.false_eq_true, if_false, Bool.not_false, Bool.true_and] at hx
      split at hx
      · exact .inl hx
      · rename_i hfa
        rcases List.mem_append.1 hx with h | h
        · exact .inl h
        · exact .inr ⟨by simpa using hfa, h⟩
    rcases hx' with hx | ⟨hfa, hx⟩
    · refine .inl ?_
      rcases Pth.split w x y hp' with h | ⟨u, d, v, m, z, rfl, h1, ⟨h2, h3⟩, h4, h5⟩
      · obtain ⟨hq, hr⟩ := stay_a (ends_r hx) h
        simp only [endsT] at hy
        split at hy
        · have := ends_r hy; unfold InR at this hr; push_cast at this; omega
        · rename_i hfb
          simp only [Bool.not_true, Bool.false_and, Bool.false_eq_true, if_false] at hy
          rcases List.mem_append.1 hy with hy | hy
          · exact ⟨w, [], by simp, ⟨x, hx, hl, y, hy, hq⟩, .inl ⟨rfl, by simpa using hfb⟩⟩
          · have := ends_r hy; unfold InR at this hr; push_cast at this; omega
      · obtain ⟨hq, _⟩ := stay_a (ends_r hx) h1
        obtain ⟨hq2, hr2⟩ := stay_b hE (ends_r h3) h5
        exact ⟨u, d :: v, rfl, ⟨x, hx, hl, m, h2, hq⟩, .inr ⟨d, v, rfl, z, h3, h4, y, lastb y hr2 hy, hq2⟩⟩
    · obtain ⟨hq2, hr2⟩ := stay_b hE (ends_r hx) hp'
      exact .inr ⟨hfa, x, hx, hl, y, lastb y hr2 hy, hq2⟩
  · rintro (⟨u, v, rfl, ⟨x, hx, hl, m, hm, hp⟩, h⟩ | ⟨hfa, x, hx, hl, y, hy, hp⟩)
    · have hx' : x ∈ endsT false (.cat a b) base := by
        simp only [endsT, Bool.false_and, Bool.false_eq_true, if_false]
        split
        · exact hx
        · exact List.mem_append_left _ hx
      rcases h with ⟨rfl, hfb⟩ | ⟨d, v', rfl, z, hz, hlz, y, hy, hp2⟩
      · refine ⟨x, hx', hl, m, ?_, ?_⟩
        · simp only [endsT, hfb]
          simpa using Or.inl hm
        · rw [List.append_nil]; exact Pth.mono (fun _ _ h => .inl h) _ _ _ hp
      · exact ⟨x, hx', hl, y, inb y hy, Pth.app u _ x m y (Pth.mono (fun _ _ h => .inl h) _ _ _ hp) ⟨z, .inr (.inr ⟨hm, hz⟩), hlz, Pth.mono (fun _ _ h => .inr (.inl h)) _ _ _ hp2⟩⟩
    · refine ⟨x, ?_, hl, y, inb y hy, Pth.mono (fun _ _ h => .inr (.inl h)) _ _ _ hp⟩
      simp only [endsT, hfa]
      simpa using Or.inr hx
theorem Rep.imp {L M : List UInt8 → Prop} (h : ∀ w, L w → M w) {w : List UInt8} (hw : Rep L w) : Rep M w := by
  induction hw with
  | nil => exact .nil
  | cons u v hu _ ih => exact .cons u v (h u hu) ih
/-- Words that are empty may be left out. -/
theorem Rep.full {L : List UInt8 → Prop} {w : List UInt8} (hw : Rep L w) : Rep (fun u => L u ∧ u ≠ []) w := by
  induction hw with
  | nil => exact .nil
  | cons u v hu _ ih =>
    by_cases e : u = []
    · subst e; exact ih
    · exact .cons u v ⟨hu, e⟩ ih
theorem rep_cons {L : List UInt8 → Prop} {c : UInt8} {w : List UInt8} (hw : Rep (fun u => L u ∧ u ≠ []) (c :: w)) : ∃ u v, w = u ++ v ∧ L (c :: u) ∧ Rep (fun u => L u ∧ u ≠ []) v := by
  generalize e : c :: w = q at hw
  cases hw with
  | nil => cases e
  | cons u v hu hv =>
    obtain ⟨h1, h2⟩ := hu
    cases u with
    | nil => exact absurd rfl h2
    | cons d u =>
      simp only [List.cons_append, List.cons.injEq] at e
      obtain ⟨rfl, rfl⟩ := e
      exact ⟨u, v, rfl, h1, hv⟩
/-- THE PLAIN LAW: the words of an expression, but the empty one, are those of its spots' paths. -/
theorem glush {lt : Int → UInt8 → Prop} (T : RxT) : ∀ (base : Nat), Fits lt T base → ∀ (c : UInt8) (w : List UInt8), inT T (c :: w) ↔ Acc lt T base c w := by
  induction T with
  | set S =>
    intro base hf c w
    rw [acc_set hf]
    simp only [inT, List.cons.injEq]
    constructor
    · rintro ⟨d, ⟨rfl, rfl⟩, h⟩; exact ⟨rfl, h⟩
    · rintro ⟨rfl, h⟩; exact ⟨c, ⟨rfl, rfl⟩, h⟩
  | empty =>
    intro base hf c w
    constructor
    · intro h; cases h
    · rintro ⟨x, hx, _⟩; cases hx
  | alt a b iha ihb =>
    intro base hf c w
    rw [acc_alt, ← iha base hf.1 c w, ← ihb _ hf.2 c w]; exact Iff.rfl
  | opt a iha =>
    intro base hf c w
    have h1 : Acc lt (.opt a) base c w ↔ Acc lt a base c w := Iff.rfl
    rw [h1, ← iha base hf c w]
    simp [inT]
  | cat a b iha ihb =>
    intro base hf c w
    rw [acc_cat]
    simp only [inT]
    constructor
    · rintro ⟨u, v, e, h1, h2⟩
      cases u with
      | nil =>
        rw [List.nil_append] at e
        subst e
        exact .inr ⟨(freeT_iff a).2 h1, (ihb _ hf.2 c w).1 h2⟩
      | cons d u =>
        simp only [List.cons_append, List.cons.injEq] at e
        obtain ⟨rfl, rfl⟩ := e
        refine .inl ⟨u, v, rfl, (iha base hf.1 c u).1 h1, ?_⟩
        cases v with
        | nil => exact .inl ⟨rfl, (freeT_iff b).2 h2⟩
        | cons d v => exact .inr ⟨d, v, rfl, (ihb _ hf.2 d v).1 h2⟩
    · rintro (⟨u, v, rfl, h1, h⟩ | ⟨h1, h2⟩)
      · refine ⟨c :: u, v, rfl, (iha base hf.1 c u).2 h1, ?_⟩
        rcases h with ⟨rfl, h⟩ | ⟨d, v', rfl, h⟩
        · exact (freeT_iff b).1 h
        · exact (ihb _ hf.2 d v').2 h
      · exact ⟨[], c :: w, rfl, (freeT_iff a).1 h1, (ihb _ hf.2 c w).2 h2⟩
  | star a iha =>
    intro base hf c w
    have h1 : Acc lt (.star a) base c w ↔ AccL lt a base c w := Iff.rfl
    rw [h1]
    constructor
    · intro h
      obtain ⟨u, v, rfl, h1, h2⟩ := rep_cons (Rep.full h)
      refine accL_of (Rep.imp (fun q hq => ?_) h2) c u ((iha base hf c u).1 h1)
      obtain ⟨q1, q2⟩ := hq
      cases q with
      | nil => exact absurd rfl q2
      | cons d q => exact ⟨d, q, rfl, (iha base hf d q).1 q1⟩
    · intro h
      obtain ⟨u, v, rfl, h1, h2⟩ := accL_to w.length c w (Nat.le_refl _) h
      exact Rep.cons (c :: u) v ((iha base hf c u).2 h1) (Rep.imp (fun q ⟨d, q', e, h⟩ => by rw [e]; exact (iha base hf d q').2 h) h2)
  | plus a iha =>
    intro base hf c w
    have h1 : Acc lt (.plus a) base c w ↔ AccL lt a base c w := Iff.rfl
    rw [h1]
    constructor
    · rintro ⟨u, v, e, hu, hv⟩
      have h : Rep (inT a) (c :: w) := by rw [e]; exact Rep.cons u v hu hv
      obtain ⟨u, v, rfl, h1, h2⟩ := rep_cons (Rep.full h)
      refine accL_of (Rep.imp (fun q hq => ?_) h2) c u ((iha base hf c u).1 h1)
      obtain ⟨q1, q2⟩ := hq
      cases q with
      | nil => exact absurd rfl q2
      | cons d q => exact ⟨d, q, rfl, (iha base hf d q).1 q1⟩
    · intro h
      obtain ⟨u, v, rfl, h1, h2⟩ := accL_to w.length c w (Nat.le_refl _) h
      exact ⟨c :: u, v, rfl, (iha base hf c u).2 h1, Rep.imp (fun q ⟨d, q', e, h⟩ => by rw [e]; exact (iha base hf d q').2 h) h2⟩
end Go.Proofs.Ytmkgipoljbiocaa
/- Spots moved. -/
namespace Go.Proofs.Ytmkgipoljbiocaa
set_option linter.unusedVariables false
theorem ends_shift (last : Bool) (T : RxT) : ∀ (base k : Nat), endsT last T (base + k) = (endsT last T base).map (· + (k : Int)) := by
  induction T with
  | set S => intro b k; simp [endsT]
  | empty => intro b k; simp [endsT]
  | cat a b iha ihb =>
    intro base k
    simp only [endsT]
    rw [iha, show base + k + nSet a = (base + nSet a) + k by omega, ihb]
    split
    · rfl
    · split
      · rfl
      · rw [List.map_append]
  | alt a b iha ihb =>
    intro base k
    simp only [endsT]
    rw [iha, show base + k + nSet a = (base + nSet a) + k by omega, ihb, List.map_append]
  | star a iha => intro base k; exact iha base k
  | plus a iha => intro base k; exact iha base k
  | opt a iha => intro base k; exact iha base k
theorem mem_shift {l : List Int} {x k : Int} : x + k ∈ l.map (· + k) ↔ x ∈ l := by
  constructor
  · intro h
    obtain ⟨y, hy, e⟩ := List.mem_map.1 h
    have : y = x := by omega
    rwa [← this]
  · intro h; exact List.mem_map.2 ⟨x, h, rfl⟩
theorem fol_shift (T : RxT) : ∀ (base k : Nat) (x y : Int), folR T (base + k) (x + k) (y + k) ↔ folR T base x y := by
  induction T with
  | set S => intro b k x y; exact Iff.rfl
  | empty => intro b k x y; exact Iff.rfl
  | cat a b iha ihb =>
    intro base k x y
    simp only [folR]
    rw [iha, show base + k + nSet a = (base + nSet a) + k by omega, ihb, ends_shift, ends_shift, mem_shift, mem_shift]
  | alt a b iha ihb =>
    intro base k x y
    simp only [folR]
    rw [iha, show base + k + nSet a = (base + nSet a) + k by omega, ihb]
  | star a iha => intro base k x y; simp only [folR]; rw [iha, ends_shift, ends_shift, mem_shift, mem_shift]
  | plus a iha => intro base k x y; simp only [folR]; rw [iha, ends_shift, ends_shift, mem_shift, mem_shift]
  | opt a iha => intro base k x y; exact iha base k x y
end Go.Proofs.Ytmkgipoljbiocaa
/- The spots behind a word, in a net that is right: those that a path ends in. -/
namespace Go.Proofs.Ytmkgipoljbiocaa
set_option linter.unusedVariables false
def ltN (N : NetS) (z : Int) (c : UInt8) : Prop := 0 ≤ z ∧ z < (N.sets.length : Int) ∧ hasS N z.toNat c.toNat = true
theorem mem_withL {N : NetS} {l : List Int} {c : UInt8} {z : Int} : z ∈ withL N l c.toNat ↔ z ∈ l ∧ ltN N z c := by
  unfold withL withUp ltN
  constructor
  · intro h
    obtain ⟨i, hi, rfl⟩ := List.mem_map.1 h
    obtain ⟨h1, h2⟩ := List.mem_filter.1 hi
    have := List.mem_range.1 h1
    simp only [Bool.and_eq_true, List.contains_iff_mem] at h2
    exact ⟨h2.1, by omega, by omega, by rw [Int.toNat_natCast]; exact h2.2⟩
  · rintro ⟨h1, h2, h3, h4⟩
    refine List.mem_map.2 ⟨z.toNat, List.mem_filter.2 ⟨List.mem_range.2 (by omega), ?_⟩, by omega⟩
    simp only [Bool.and_eq_true, List.contains_iff_mem]
    exact ⟨by rw [Int.toNat_of_nonneg h2]; exact h1, h4⟩
/-- The spots behind a word. -/
def stepsS (N : NetS) (l : List Int) (w : List UInt8) : List Int := w.foldl (fun l d => stepL N l d.toNat) l
def runS (N : NetS) (c : UInt8) (w : List UInt8) : List Int := stepsS N (startL N c.toNat) w
theorem mem_steps {N : NetS} (hN : netR N = true) : ∀ (w : List UInt8) (l : List Int) (z : Int), z ∈ stepsS N l w ↔ ∃ x, x ∈ l ∧ Pth (ltN N) (fun x y => y ∈ folO N x) x w z := by
  intro w
  induction w with
  | nil =>
    intro l z
    show z ∈ l ↔ _
    constructor
    · intro h; exact ⟨z, h, rfl⟩
    · rintro ⟨x, h, e⟩; cases e; exact h
  | cons d w ih =>
    intro l z
    show z ∈ stepsS N (stepL N l d.toNat) w ↔ _
    rw [ih]
    constructor
    · rintro ⟨x, hx, hp⟩
      unfold stepL at hx
      rw [if_pos hN] at hx
      obtain ⟨h1, h2⟩ := mem_withL.1 hx
      obtain ⟨y, hy, hxy⟩ := List.mem_flatMap.1 h1
      exact ⟨y, hy, x, hxy, h2, hp⟩
    · rintro ⟨y, hy, x, hxy, h2, hp⟩
      refine ⟨x, ?_, hp⟩
      unfold stepL
      rw [if_pos hN]
      exact mem_withL.2 ⟨List.mem_flatMap.2 ⟨y, hy, hxy⟩, h2⟩
theorem mem_run {N : NetS} (hN : netR N = true) (c : UInt8) (w : List UInt8) (z : Int) : z ∈ runS N c w ↔ ∃ x, x ∈ N.first ∧ ltN N x c ∧ Pth (ltN N) (fun x y => y ∈ folO N x) x w z := by
  unfold runS
  rw [mem_steps hN]
  unfold startL
  rw [if_pos hN]
  constructor
  · rintro ⟨x, hx, hp⟩
    obtain ⟨h1, h2⟩ := mem_withL.1 hx
    exact ⟨x, h1, h2, hp⟩
  · rintro ⟨x, h1, h2, hp⟩
    exact ⟨x, mem_withL.2 ⟨h1, h2⟩, hp⟩
end Go.Proofs.Ytmkgipoljbiocaa
/- The tokens of a net lie apart. -/
namespace Go.Proofs.Ytmkgipoljbiocaa
set_option linter.unusedVariables false
def baseT (os : List (Option RxT)) (t : Nat) : Nat := (fuseUp os t).sets.length
theorem base_succ (os : List (Option RxT)) (t : Nat) : baseT os (t + 1) = baseT os t + (setsL ((os[t]?).getD none)).length := by
  show ((fuseUp os t).sets ++ (setsL _).take _).length = _
  simp [baseT]
/-- What a token's spots are, in the net of the first tokens. -/
structure TokIn (N : NetS) (B t : Nat) (o : Option RxT) : Prop where
  sets : ∀ i S, (setsL o)[i]? = some S → N.sets[B + i]? = some S
  of : ∀ i, i < (setsL o).length → N.of[B + i]? = some (t : Int)
  last : ∀ i, i < (setsL o).length → N.last[B + i]? = some ((endsL true o).contains (i : Int))
  fol : ∀ i, i < (setsL o).length → N.fol[B + i]? = some ((folL o i).map (· + (B : Int)))
theorem TokIn.new {N : NetS} (h : NI N) (t : Nat) (o : Option RxT) : TokIn (addTok N t o) N.sets.length t o := by
  refine ⟨fun i S hi => ?_, fun i hi => ?_, fun i hi => ?_, fun i hi => ?_⟩
  · show (N.sets ++ (setsL o).take (setsL o).length)[N.sets.length + i]? = _
    rw [List.take_length, List.getElem?_append_right (by omega), Nat.add_sub_cancel_left]; exact hi
  · show (N.of ++ _)[N.sets.length + i]? = _
    rw [List.getElem?_append_right (by rw [h.lo]; omega), h.lo, Nat.add_sub_cancel_left, List.getElem?_map, List.getElem?_range hi]; rfl
  · show (N.last ++ _)[N.sets.length + i]? = _
    rw [List.getElem?_append_right (by rw [h.ll]; omega), h.ll, Nat.add_sub_cancel_left, List.getElem?_map, List.getElem?_range hi]; rfl
  · show (N.fol ++ _)[N.sets.length + i]? = _
    rw [List.getElem?_append_right (by rw [h.lf]; omega), h.lf, Nat.add_sub_cancel_left, List.getElem?_map, List.getElem?_range hi]; rfl
theorem TokIn.keep {N : NetS} {B t : Nat} {o : Option RxT} (h : TokIn N B t o) (t' : Nat) (o' : Option RxT) : TokIn (addTok N t' o') B t o := by
  have app : ∀ {α : Type} {l m : List α} {k : Nat} {x : α}, l[k]? = some x → (l ++ m)[k]? = some x := fun {α l m k x} hx => by
    rw [List.getElem?_append_left (List.getElem?_eq_some_iff.1 hx).1]; exact hx
  exact ⟨fun i S hi => app (h.sets i S hi), fun i hi => app (h.of i hi), fun i hi => app (h.last i hi), fun i hi => app (h.fol i hi)⟩
theorem tok_in (os : List (Option RxT)) : ∀ (k t : Nat), t < k → TokIn (fuseUp os k) (baseT os t) t ((os[t]?).getD none) := by
  intro k
  induction k with
  | zero => intro t h; omega
  | succ k ih =>
    intro t h
    by_cases e : t = k
    · subst e; exact TokIn.new (fuse_ni os t) t _
    · exact (ih t (by omega)).keep k _
theorem mem_first (os : List (Option RxT)) : ∀ (k : Nat) (z : Int), z ∈ (fuseUp os k).first ↔ ∃ t, t < k ∧ ∃ x, x ∈ endsL false ((os[t]?).getD none) ∧ z = x + (baseT os t : Int) := by
  intro k
  induction k with
  | zero => intro z; simp [fuseUp, net0]
  | succ k ih =>
    intro z
    show z ∈ (fuseUp os k).first ++ (endsL false ((os[k]?).getD none)).map (· + ((fuseUp os k).sets.length : Int)) ↔ _
    rw [List.mem_append, ih]
    constructor
    · rintro (⟨t, ht, h⟩ | h)
      · exact ⟨t, by omega, h⟩
      · obtain ⟨x, hx, rfl⟩ := List.mem_map.1 h
        exact ⟨k, by omega, x, hx, rfl⟩
    · rintro ⟨t, ht, x, hx, rfl⟩
      by_cases e : t = k
      · subst e; exact .inr (List.mem_map.2 ⟨x, hx, rfl⟩)
      · exact .inl ⟨t, by omega, x, hx, rfl⟩
theorem base_mono (os : List (Option RxT)) {t : Nat} : ∀ (k : Nat), t ≤ k → baseT os t ≤ baseT os k := by
  intro k
  induction k with
  | zero => intro h; have e : t = 0 := (by omega); subst e; exact Nat.le_refl _
  | succ k ih =>
    intro h
    by_cases e : t = k + 1
    · subst e; exact Nat.le_refl _
    · have := ih (by omega); have := base_succ os k; omega
/-- Letters of a token's spots. -/
theorem fits_of {lt : Int → UInt8 → Prop} (T : RxT) : ∀ (base : Nat), (∀ i S, (setsT T)[i]? = some S → ∀ c : UInt8, lt ((base + i : Nat) : Int) c ↔ S c.toNat = true) → Fits lt T base := by
  induction T with
  | set S => intro base h c; exact h 0 S rfl c
  | empty => intro base h; trivial
  | cat a b iha ihb =>
    intro base h
    refine ⟨iha base fun i S hi => h i S ?_, ihb _ fun i S hi => ?_⟩
    · show (setsT a ++ setsT b)[i]? = _
      rw [List.getElem?_append_left (List.getElem?_eq_some_iff.1 hi).1]; exact hi
    · rw [Nat.add_assoc]
      refine h (nSet a + i) S ?_
      show (setsT a ++ setsT b)[nSet a + i]? = _
      rw [List.getElem?_append_right (by rw [setsT_len]; omega), setsT_len, Nat.add_sub_cancel_left]; exact hi
  | alt a b iha ihb =>
    intro base h
    refine ⟨iha base fun i S hi => h i S ?_, ihb _ fun i S hi => ?_⟩
    · show (setsT a ++ setsT b)[i]? = _
      rw [List.getElem?_append_left (List.getElem?_eq_some_iff.1 hi).1]; exact hi
    · rw [Nat.add_assoc]
      refine h (nSet a + i) S ?_
      show (setsT a ++ setsT b)[nSet a + i]? = _
      rw [List.getElem?_append_right (by rw [setsT_len]; omega), setsT_len, Nat.add_sub_cancel_left]; exact hi
  | star a iha => intro base h; exact iha base h
  | plus a iha => intro base h; exact iha base h
  | opt a iha => intro base h; exact iha base h
end Go.Proofs.Ytmkgipoljbiocaa
/- What a net of tokens reads: the first token that says the word. -/
namespace Go.Proofs.Ytmkgipoljbiocaa
set_option linter.unusedVariables false
/-- Does a token say a word? -/
def saysO : Option RxT → List UInt8 → Prop
  | none, _ => False
  | some T, w => inT T w
/-- At a last spot of a token. -/
def lastN (N : NetS) (z : Int) (t : Nat) : Prop := 0 ≤ z ∧ z < (N.sets.length : Int) ∧ N.last[z.toNat]? = some true ∧ N.of[z.toNat]? = some (t : Int)
theorem mem_folL {T : RxT} {i : Nat} {y : Int} : y ∈ folL (some T) i ↔ folR T 0 (i : Int) y := by
  unfold folL folUp
  constructor
  · intro h
    obtain ⟨b, hb, rfl⟩ := List.mem_map.1 h
    exact (follows_iff T _ _).1 (List.mem_filter.1 hb).2
  · intro h
    have hr := (folR_range T 0 _ _ h).2
    refine List.mem_map.2 ⟨y.toNat, List.mem_filter.2 ⟨List.mem_range.2 (by omega), ?_⟩, by omega⟩
    rw [show ((y.toNat : Nat) : Int) = y by omega]
    exact (follows_iff T _ _).2 h
/-- A token of a net, with its spots where they stand there. -/
structure TokAt (N : NetS) (B t : Nat) (T : RxT) : Prop where
  fits : Fits (ltN N) T B
  of : ∀ z, InR B (nSet T) z → N.of[z.toNat]? = some (t : Int)
  last : ∀ z, InR B (nSet T) z → (N.last[z.toNat]? = some true ↔ z ∈ endsT true T B)
  fol : ∀ z y, InR B (nSet T) z → (y ∈ folO N z ↔ folR T B z y)
  inn : ∀ z, InR B (nSet T) z → 0 ≤ z ∧ z < (N.sets.length : Int)
theorem TokIn.at_ {N : NetS} {B t : Nat} {T : RxT} (h : TokIn N B t (some T)) : TokAt N B t T := by
  have hl : (setsL (some T)).length = nSet T := setsT_len T
  have hin : ∀ z, InR B (nSet T) z → ∃ i, i < nSet T ∧ z = ((B + i : Nat) : Int) := fun z hz => by
    unfold InR at hz
    exact ⟨z.toNat - B, by omega, by omega⟩
  have hsl : ∀ i, i < nSet T → B + i < N.sets.length := fun i hi => by
    have hs : (setsL (some T))[i]? = some (setsL (some T))[i] := List.getElem?_eq_getElem (by omega)
    exact (List.getElem?_eq_some_iff.1 (h.sets i _ hs)).1
  have e0 : ∀ last, endsT last T B = (endsT last T 0).map (· + (B : Int)) := fun last => by
    have := ends_shift last T 0 B
    rwa [Nat.zero_add] at this
  refine ⟨fits_of T B fun i S hi c => ?_, fun z hz => ?_, fun z hz => ?_, fun z y hz => ?_, fun z hz => ?_⟩
  · have h1 := h.sets i S hi
    unfold ltN hasS
    rw [Int.toNat_natCast, h1]
    have := (List.getElem?_eq_some_iff.1 h1).1
    constructor
    · rintro ⟨_, _, h⟩; exact h
    · intro h; exact ⟨by omega, by omega, h⟩
  · obtain ⟨i, hi, rfl⟩ := hin z hz
    rw [Int.toNat_natCast]; exact h.of i (by omega)
  · obtain ⟨i, hi, rfl⟩ := hin z hz
    rw [Int.toNat_natCast, h.last i (by omega), e0, show ((B + i : Nat) : Int) = (i : Int) + (B : Int) by omega, mem_shift]
    show some ((endsT true T 0).contains (i : Int)) = some true ↔ _
    simp
  · obtain ⟨i, hi, rfl⟩ := hin z hz
    have h1 := h.fol i (by omega)
    have h2 := hsl i hi
    unfold folO
    rw [if_pos (by omega), Int.toNat_natCast, h1, Option.getD_some, show ((B + i : Nat) : Int) = (i : Int) + (B : Int) by omega]
    have h3 := fol_shift T 0 B (i : Int) (y - (B : Int))
    rw [Nat.zero_add, show y - (B : Int) + (B : Int) = y by omega] at h3
    rw [h3, ← mem_folL]
    constructor
    · intro h
      obtain ⟨x, hx, rfl⟩ := List.mem_map.1 h
      rwa [show x + (B : Int) - (B : Int) = x by omega]
    · intro h; exact List.mem_map.2 ⟨_, h, by omega⟩
  · obtain ⟨i, hi, rfl⟩ := hin z hz
    have := hsl i hi
    omega
theorem tok_at {os : List (Option RxT)} {t : Nat} {T : RxT} (h : os[t]? = some (some T)) : TokAt (fuseN os) (baseT os t) t T := by
  have hl := (List.getElem?_eq_some_iff.1 h).1
  have := tok_in os os.length t hl
  rw [h, Option.getD_some] at this
  exact TokIn.at_ this
/-- A spot that a word leads to is a last one of a token just if the token says the word. -/
theorem acc_tok (os : List (Option RxT)) (c : UInt8) (w : List UInt8) (t : Nat) :
    (∃ z, z ∈ runS (fuseN os) c w ∧ lastN (fuseN os) z t) ↔ ∃ T, os[t]? = some (some T) ∧ inT T (c :: w) := by
  have hN := netR_fuse os
  constructor
  · rintro ⟨z, hz, hl⟩
    obtain ⟨x, hx, hlt, hp⟩ := (mem_run hN c w z).1 hz
    obtain ⟨t', ht', x0, hx0, rfl⟩ := (mem_first os os.length x).1 hx
    cases ho : (os[t']?).getD none with
    | none => rw [ho] at hx0; cases hx0
    | some T =>
      have ho' : os[t']? = some (some T) := by
        rw [List.getElem?_eq_getElem ht'] at ho ⊢
        rw [Option.getD_some] at ho; rw [ho]
      rw [ho] at hx0
      have A := tok_at ho'
      have hx1 : x0 + (baseT os t' : Int) ∈ endsT false T (baseT os t') := by
        have := ends_shift false T 0 (baseT os t')
        rw [Nat.zero_add] at this
        rw [this, mem_shift]; exact hx0
      obtain ⟨hq, hr⟩ := Pth.restrict (R' := folR T (baseT os t')) (P := InR (baseT os t') (nSet T)) (fun m z hm hr => by
        have := (A.fol m z hm).1 hr
        exact ⟨this, (folR_range T _ m z this).2⟩) w _ z (ends_r hx1) hp
      have h1 := A.of z hr
      rw [hl.2.2.2] at h1
      have e : t = t' := by have := Option.some.inj h1; omega
      subst e
      exact ⟨T, ho', (glush T _ A.fits c w).2 ⟨_, hx1, hlt, z, (A.last z hr).1 hl.2.2.1, hq⟩⟩
  · rintro ⟨T, ho, hi⟩
    have A := tok_at ho
    obtain ⟨x, hx, hlt, y, hy, hp⟩ := (glush T _ A.fits c w).1 hi
    have hl := (List.getElem?_eq_some_iff.1 ho).1
    have e0 := ends_shift false T 0 (baseT os t)
    rw [Nat.zero_add] at e0
    refine ⟨y, (mem_run hN c w y).2 ⟨x, (mem_first os os.length x).2 ⟨t, hl, x - (baseT os t : Int), ?_, by omega⟩, hlt, Pth.mono (fun m z hr => (A.fol m z (folR_range T _ m z hr).1).2 hr) _ _ _ hp⟩, (A.inn y (ends_r hy)).1, (A.inn y (ends_r hy)).2, (A.last y (ends_r hy)).2 hy, A.of y (ends_r hy)⟩
    rw [ho, Option.getD_some]
    show _ ∈ endsT false T 0
    rw [e0] at hx
    obtain ⟨x0, h1, rfl⟩ := List.mem_map.1 hx
    rwa [show x0 + (baseT os t : Int) - (baseT os t : Int) = x0 by omega]
/-- The least token among last spots. -/
theorem tok_fold {N : NetS} (hN : netR N = true) : ∀ (xs : List Int) (t r : Int), -1 ≤ t → xs.foldl (tokZ N) t = r →
    -1 ≤ r ∧ (r = t ∨ ∃ z, z ∈ xs ∧ ∃ k : Nat, lastN N z k ∧ r = (k : Int)) ∧ (∀ z, z ∈ xs → ∀ k : Nat, lastN N z k → 0 ≤ r ∧ r ≤ (k : Int)) ∧ (0 ≤ t → 0 ≤ r ∧ r ≤ t) := by
  intro xs
  induction xs with
  | nil => intro t r ht hr; cases hr; exact ⟨ht, .inl rfl, fun z hz => by simp at hz, fun h => ⟨h, Int.le_refl _⟩⟩
  | cons x xs ih =>
    intro t r ht hr
    have hr : xs.foldl (tokZ N) (tokZ N t x) = r := hr
    have hlo := (netR_len hN).1
    unfold tokZ at hr
    split at hr
    · rename_i hc
      obtain ⟨h1, h2, h3, h4⟩ := hc
      have hx : x.toNat < N.of.length := by omega
      have ho : N.of[x.toNat]? = some N.of[x.toNat] := List.getElem?_eq_getElem hx
      have h0 := tok_range hN ho
      rw [ho, Option.getD_some] at hr h4
      obtain ⟨k, hk⟩ : ∃ k : Nat, N.of[x.toNat] = (k : Int) := ⟨(N.of[x.toNat]).toNat, by omega⟩
      rw [hk] at hr h4 ho
      have hL : lastN N x k := ⟨h1, h2, h3, ho⟩
      obtain ⟨i1, i2, i3, i4⟩ := ih (k : Int) r (by omega) hr
      obtain ⟨j1, j2⟩ := i4 (by omega)
      refine ⟨i1, .inr ?_, fun z hz k' hk' => ?_, fun h => by omega⟩
      · rcases i2 with i2 | ⟨z, hz, k', hk', e⟩
        · exact ⟨x, .head _, k, hL, i2⟩
        · exact ⟨z, .tail _ hz, k', hk', e⟩
      · rcases List.mem_cons.1 hz with rfl | hz
        · have e := hk'.2.2.2
          rw [ho] at e
          have := Option.some.inj e
          omega
        · exact i3 z hz k' hk'
    · rename_i hc
      obtain ⟨i1, i2, i3, i4⟩ := ih t r ht hr
      refine ⟨i1, ?_, fun z hz k' hk' => ?_, i4⟩
      · rcases i2 with i2 | ⟨z, hz, k', hk', e⟩
        · exact .inl i2
        · exact .inr ⟨z, .tail _ hz, k', hk', e⟩
      · rcases List.mem_cons.1 hz with rfl | hz
        · have hn : ¬ (t < 0 ∨ (k' : Int) < t) := fun h => hc ⟨hk'.1, hk'.2.1, hk'.2.2.1, by rw [hk'.2.2.2, Option.getD_some]; exact h⟩
          have := i4 (by omega)
          omega
        · exact i3 z hz k' hk'
/-- Is a number the least token that says a word; -1: none does. -/
def LeastT (os : List (Option RxT)) (w : List UInt8) (r : Int) : Prop :=
  (r = -1 ∧ ∀ (t : Nat) (T : RxT), os[t]? = some (some T) → ¬ inT T w) ∨ ∃ k : Nat, r = (k : Int) ∧ (∃ T, os[k]? = some (some T) ∧ inT T w) ∧ ∀ (t : Nat) (T : RxT), t < k → os[t]? = some (some T) → ¬ inT T w
theorem token_least (os : List (Option RxT)) (c : UInt8) (w : List UInt8) : LeastT os (c :: w) (tokenL (fuseN os) (runS (fuseN os) c w)) := by
  have hN := netR_fuse os
  unfold tokenL
  rw [if_pos hN]
  obtain ⟨h1, h2, h3, _⟩ := tok_fold hN (runS (fuseN os) c w) (-1) _ (by omega) rfl
  generalize (runS (fuseN os) c w).foldl (tokZ (fuseN os)) (-1) = r at h1 h2 h3
  have all : ∀ (t : Nat) (T : RxT), os[t]? = some (some T) → inT T (c :: w) → 0 ≤ r ∧ r ≤ (t : Int) := fun t T ho hi => by
    obtain ⟨z, hz, hl⟩ := (acc_tok os c w t).2 ⟨T, ho, hi⟩
    exact h3 z hz t hl
  rcases h2 with h2 | ⟨z, hz, k, hk, e⟩
  · exact .inl ⟨h2, fun t T ho hi => by have := all t T ho hi; omega⟩
  · exact .inr ⟨k, e, (acc_tok os c w k).1 ⟨z, hz, hk⟩, fun t T ht ho hi => by have := all t T ho hi; omega⟩
end Go.Proofs.Ytmkgipoljbiocaa
/- What the table of a net reads. -/
namespace Go.Proofs.Ytmkgipoljbiocaa
set_option linter.unusedVariables false
/-- What stands in a table at a place. -/
def Ent (f : List (List Int)) (t : List Int) (r : Int) : Prop := (t = [] ∧ r = -1) ∨ (t ≠ [] ∧ ∃ k : Nat, r = (k : Int) ∧ f[k]? = some t)
theorem find_some {l : List (List Int)} {x : List Int} {k : Nat} (h : findL l x = (k : Int)) : l[k]? = some x := by
  induction l generalizing k with
  | nil => simp [findL] at h
  | cons y l ih =>
    simp only [findL] at h
    split at h
    · rename_i e
      have : k = 0 := by omega
      subst this; simp [e]
    · split at h
      · omega
      · cases k with
        | zero => have := (findL_ge l x).1; omega
        | succ k => simp only [List.getElem?_cons_succ]; exact ih (by omega)
theorem put_ent (f : List (List Int)) (t : List Int) : Ent (putF f t) t (atF f t) := by
  unfold putF atF
  by_cases h : t = []
  · rw [if_pos h, if_pos h]; exact .inl ⟨h, rfl⟩
  · rw [if_neg h, if_neg h]
    refine .inr ⟨h, ?_⟩
    by_cases h2 : findL f t < 0
    · rw [if_pos h2, if_pos h2]
      exact ⟨f.length, rfl, by simp⟩
    · rw [if_neg h2, if_neg h2]
      exact ⟨(findL f t).toNat, by omega, find_some (by omega)⟩
theorem Ent.grow {f f' : List (List Int)} {t : List Int} {r : Int} (h : Ent f t r) (hp : ∀ (k : Nat) x, f[k]? = some x → f'[k]? = some x) : Ent f' t r := by
  rcases h with h | ⟨h, k, e, hk⟩
  · exact .inl h
  · exact .inr ⟨h, k, e, hp k t hk⟩
theorem inner_ent {N : NetS} {most : Nat} {x : List Int} {i : Nat} {f0 : List (List Int)} : ∀ (c : Nat) {f : List (List Int)} {r : List Int}, innerUp N most x i f0 c = some (f, r) → (∀ (k : Nat) y, f0[k]? = some y → f[k]? = some y) ∧ r.length = c ∧ ∀ j, j < c → ∃ z, r[j]? = some z ∧ Ent f (toL N x i j) z := by
  intro c
  induction c with
  | zero => intro f r h; simp [innerUp] at h; obtain ⟨rfl, rfl⟩ := h; exact ⟨fun _ _ h => h, rfl, fun j hj => by omega⟩
  | succ c ih =>
    intro f r h
    simp only [innerUp] at h
    split at h
    · cases h
    · rename_i f1 r1 h1
      split at h
      · cases h
      · simp only [Option.some.injEq, Prod.mk.injEq] at h
        obtain ⟨rfl, rfl⟩ := h
        obtain ⟨e1, e2, e3⟩ := ih h1
        have hp := (putF_pre f1 (toL N x i c)).2.2
        refine ⟨fun k y hy => hp k y (e1 k y hy), by simp [e2], fun j hj => ?_⟩
        by_cases hjc : j < c
        · obtain ⟨z, hz, hE⟩ := e3 j hjc
          exact ⟨z, by rw [List.getElem?_append_left (by omega)]; exact hz, hE.grow hp⟩
        · have : j = c := by omega
          subst this
          exact ⟨_, by rw [List.getElem?_append_right (by omega), e2, Nat.sub_self]; rfl, put_ent _ _⟩
/-- What the table under way is. -/
structure TabI (N : NetS) (i : Nat) (f nx : List (List Int)) (lb : List Int) : Prop where
  zero : f[0]? = some []
  le : nx.length ≤ i
  ent : ∀ j, j < nx.length → ∃ x r, f[j]? = some x ∧ nx[j]? = some r ∧ lb[j]? = some (tokenL N x) ∧ ∀ c, c < widN N → ∃ z, r[c]? = some z ∧ Ent f (toL N x j c) z
theorem outer_tab {N : NetS} {most : Nat} (hm : 1 ≤ most) : ∀ (i : Nat) {f nx : List (List Int)} {lb : List Int}, outerUp N most i = some (f, nx, lb) → TabI N i f nx lb := by
  intro i
  induction i with
  | zero =>
    intro f nx lb h
    simp [outerUp] at h
    obtain ⟨rfl, rfl, rfl⟩ := h
    exact ⟨rfl, Nat.le_refl _, fun j hj => by simp at hj⟩
  | succ i ih =>
    intro f nx lb h
    have I2 := outer_inv hm (i + 1) h
    simp only [outerUp] at h
    split at h
    · cases h
    · rename_i f1 nx1 lb1 h1
      have I := ih h1
      have I1 := outer_inv hm i h1
      split at h
      · simp only [Option.some.injEq, Prod.mk.injEq] at h
        obtain ⟨rfl, rfl, rfl⟩ := h
        exact ⟨I.zero, by have := I.le; omega, I.ent⟩
      · rename_i x hx
        have hlt := (List.getElem?_eq_some_iff.1 hx).1
        split at h
        · cases h
        · rename_i f2 r h2
          simp only [Option.some.injEq, Prod.mk.injEq] at h
          obtain ⟨rfl, rfl, rfl⟩ := h
          obtain ⟨e1, e2, e3⟩ := inner_ent _ h2
          have hnx : nx1.length = i := by rcases I1.st with h | h <;> omega
          refine ⟨e1 0 _ I.zero, by simp [hnx], fun j hj => ?_⟩
          by_cases hji : j < i
          · obtain ⟨y, q, a1, a2, a3, a4⟩ := I.ent j (by omega)
            refine ⟨y, q, e1 j y a1, by rw [List.getElem?_append_left (by omega)]; exact a2, ?_, fun c hc => ?_⟩
            · rw [List.getElem?_append_left (by rw [I1.ll]; omega)]; exact a3
            · obtain ⟨z, hz, hE⟩ := a4 c hc
              exact ⟨z, hz, hE.grow e1⟩
          · have e : j = i := by simp [hnx] at hj; omega
            subst e
            refine ⟨x, r, e1 j x hx, by rw [List.getElem?_append_right (by omega), hnx, Nat.sub_self]; rfl, ?_, e3⟩
            rw [List.getElem?_append_right (by rw [I1.ll]; omega), I1.ll, hnx, Nat.sub_self]; rfl
/-! ## Bytes of one class lead alike. -/
theorem has_cls {N : NetS} {a b : Nat} (h : clsL N.sets a = clsL N.sets b) (i : Nat) : hasS N i a = hasS N i b := by
  have h1 := (cls_eq_iff (sigL N.sets) a b).1 h
  unfold hasS
  cases hi : N.sets[i]? with
  | none => rfl
  | some S =>
    have h2 : (sigL N.sets a)[i]? = (sigL N.sets b)[i]? := by rw [h1]
    unfold sigL at h2
    rw [List.getElem?_map, List.getElem?_map, hi] at h2
    exact Option.some.inj h2
theorem with_cls {N : NetS} {a b : Nat} (h : clsL N.sets a = clsL N.sets b) (l : List Int) : withL N l a = withL N l b := by
  unfold withL withUp
  congr 1
  refine List.filter_congr fun i _ => ?_
  rw [has_cls h i]
theorem firstB_cls {ls : List (Nat → Bool)} {b : Nat} (hb : b < 256) : clsL ls (firstB ls (clsL ls b)) = clsL ls b := by
  have hc : clsL ls b < cnt (sigL ls) 256 := cls_lt (sigL ls) hb
  obtain ⟨t, ht, _⟩ := firstB_lt ls _ hc
  have hm : firstB ls (clsL ls b) ∈ bytesC (clsL ls) ((clsL ls b : Nat) : Int) 256 := by rw [ht]; exact .head _
  have := ((bytesC_mem' _ _ _ _).1 hm).2
  omega
theorem toL_byte {N : NetS} {x : List Int} {i b : Nat} (hb : b < 256) : toL N x i (clsL N.sets b) = if i = 0 then startL N b else stepL N x b := by
  have e := firstB_cls (ls := N.sets) hb
  unfold toL startL stepL
  simp only [with_cls e]
/-! ## The state behind a word. -/
theorem runS_snoc (N : NetS) (c : UInt8) (w : List UInt8) (d : UInt8) : runS N c (w ++ [d]) = stepL N (runS N c w) d.toNat := by
  unfold runS stepsS; rw [List.foldl_append]; rfl
theorem step_nil {N : NetS} (b : Nat) : stepL N [] b = [] := by
  unfold stepL withL withUp
  split
  · simp
  · rfl
theorem tab_go {N : NetS} {most : Nat} (hm : 1 ≤ most) {f nx : List (List Int)} {lb : List Int} (h : outerUp N most (most + 1) = some (f, nx, lb)) (c : UInt8) (w : List UInt8) :
    Ent f (runS N c w) (goL ⟨clsL N.sets, (widN N : Int), nx, lb⟩ 0 (c :: w)) := by
  have I := outer_tab hm _ h
  have hfull := outer_full hm h
  have key : ∀ (j : Nat) (x : List Int) (d : UInt8), f[j]? = some x → Ent f (if j = 0 then startL N d.toNat else stepL N x d.toNat) (goM ⟨clsL N.sets, (widN N : Int), nx, lb⟩ (j : Int) d.toNat) := by
    intro j x d hx
    have hd : d.toNat < 256 := d.toNat_lt
    have hj : j < nx.length := by have := (List.getElem?_eq_some_iff.1 hx).1; omega
    obtain ⟨x', r, a1, a2, _, a4⟩ := I.ent j hj
    rw [hx] at a1
    obtain rfl := Option.some.inj a1
    obtain ⟨z, hz, hE⟩ := a4 (clsL N.sets d.toNat) (cls_lt (sigL N.sets) hd)
    rw [toL_byte hd] at hE
    rw [goM_at (M := ⟨clsL N.sets, (widN N : Int), nx, lb⟩) a2 hz]
    exact hE
  have base : Ent f (runS N c []) (goL ⟨clsL N.sets, (widN N : Int), nx, lb⟩ 0 [c]) := by
    have := key 0 [] c I.zero
    rw [if_pos rfl] at this
    exact this
  have go : ∀ (n : Nat) (w : List UInt8), w.length = n → Ent f (runS N c w) (goL ⟨clsL N.sets, (widN N : Int), nx, lb⟩ 0 (c :: w)) := by
    intro n
    induction n with
    | zero => intro w hw; have e := List.length_eq_zero_iff.1 hw; subst e; exact base
    | succ n ih =>
      intro w hw
      have hne : w ≠ [] := fun e => by rw [e] at hw; simp at hw
      obtain ⟨u, d, rfl⟩ : ∃ u d, w = u ++ [d] := ⟨w.dropLast, w.getLast hne, (List.dropLast_concat_getLast hne).symm⟩
      have h1 := ih u (by simp at hw; omega)
      rw [runS_snoc, show c :: (u ++ [d]) = (c :: u) ++ [d] from rfl, goL_snoc]
      rcases h1 with ⟨e1, e2⟩ | ⟨e1, k, e2, e3⟩
      · rw [e1, e2, step_nil, goM_neg (by omega)]; exact .inl ⟨rfl, rfl⟩
      · rw [e2]
        have hk : k ≠ 0 := fun hk => by subst hk; rw [I.zero] at e3; exact e1 (Option.some.inj e3).symm
        have := key k _ d e3
        rwa [if_neg hk] at this
  exact go _ w rfl
/-- THE PLAIN LAW: what the table of tokens' net tells of a word. -/
theorem tab_reads (os : List (Option RxT)) {M : MS} {k : Int} (h : buildR (fuseN os) 60 = (M, k, 0)) (c : UInt8) (w : List UInt8) :
    LeastT os (c :: w) (labM M (runM M (c :: w))) ∧ (runM M (c :: w) < 0 → ∀ v, runM M (c :: w ++ v) = -1) := by
  have hN := netR_fuse os
  have hr := (build_right (N := fuseN os) (most := 60) (by rw [h])).1
  rw [h] at hr
  have hrun : ∀ v, runM M v = goL M 0 v := fun v => by unfold runM; rw [if_pos hr]
  have h0 := h
  unfold buildR at h0
  rw [if_neg (by rw [hN]; decide), if_neg (by omega)] at h0
  cases ho : outerUp (fuseN os) (60 : Int).toNat ((60 : Int).toNat + 1) with
  | none => rw [ho] at h0; unfold tabR at h0; simp only [Prod.mk.injEq] at h0; omega
  | some q =>
    obtain ⟨f, nx, lb⟩ := q
    rw [ho] at h0
    unfold tabR at h0
    simp only [Prod.mk.injEq] at h0
    obtain ⟨rfl, _, _⟩ := h0
    have I := outer_tab (by decide) _ ho
    have hfull := outer_full (by decide) ho
    have E := tab_go (by decide) ho c w
    refine ⟨?_, fun hneg v => ?_⟩
    · have hl := token_least os c w
      have e : labM ⟨clsL (fuseN os).sets, (widN (fuseN os) : Int), nx, lb⟩ (runM ⟨clsL (fuseN os).sets, (widN (fuseN os) : Int), nx, lb⟩ (c :: w)) = tokenL (fuseN os) (runS (fuseN os) c w) := by
        rw [hrun]
        unfold labM
        rcases E with ⟨e1, e2⟩ | ⟨e1, j, e2, e3⟩
        · rw [e1, e2, if_neg (by omega)]
          unfold tokenL; rw [if_pos hN]; rfl
        · rw [e2, if_pos ⟨hr, by omega⟩, Int.toNat_natCast]
          obtain ⟨x, r, a1, _, a3, _⟩ := I.ent j (by have := (List.getElem?_eq_some_iff.1 e3).1; omega)
          rw [e3] at a1
          obtain rfl := Option.some.inj a1
          rw [a3]; rfl
      rw [e]; exact hl
    · rw [hrun] at hneg ⊢
      rw [goL_app, goL_neg hneg]
      have h9 := (goL_range hr (c :: w)).1
      simp only at h9
      omega
end Go.Proofs.Ytmkgipoljbiocaa
