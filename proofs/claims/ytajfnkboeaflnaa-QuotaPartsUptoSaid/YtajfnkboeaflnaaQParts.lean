import Derived.Test.YtajfnkboeaflnaaOutKnows
import Derived.Test.YtajfnkboeaflnaaQRef2
import Derived.OpenShut
namespace Go.Proofs.Ytajfnkboeaflnaa
open Go.RowKit

/-- What a Put answers, and what is there behind it. -/
def putE (room : Nat) (bs ds : List UInt8) : Int := if bs.length + ds.length ≤ room then 0 else 6
def putB (room : Nat) (bs ds : List UInt8) : List UInt8 := if bs.length + ds.length ≤ room then bs ++ ds else bs
theorem put_any (w : World) (g : Nat) (v : Value) (bs : List UInt8) (room : Nat) (h : OutAt w g v bs room) (hr : room ≤ 1073741824) (hb : bs.length ≤ room) (a : Option Addr) (len cap : Nat) (ls : List ByteArray) (hs : StrRow w a len ls)
    (hap : 0 < len → ∀ p, a = some p → p.block ≠ g ∧ v.ownBlock ≠ some p.block) (hbd : bs.length + (flat ls).length ≤ 1099511627776) :
    Calls Try.prog 7 #[.pointer (some ⟨g, 0, none⟩), .slice a len cap] w fun e w' => e = .returned (.int .i64 (putE room bs (flat ls))) ∧ Kept g v.ownBlock w w' ∧
      ∃ v', RowOr w.heap.size v.ownBlock v'.ownBlock ∧ OutAt w' g v' (putB room bs (flat ls)) room := by
  by_cases hy : bs.length + (flat ls).length ≤ room
  · unfold putE putB
    rw [if_pos hy, if_pos hy]
    exact put_yes w g v bs room h hr a len cap ls hs hap hy
  · unfold putE putB
    rw [if_neg hy, if_neg hy]
    exact (put_no w g v bs room h hr hb a len cap ls hs (by omega) (by omega)).mono fun e w' ⟨he, hw⟩ => ⟨he, Kept.of_below hw, v, RowOr.refl _ _, h.below hw⟩
theorem putB_le {room : Nat} {bs ds : List UInt8} (hb : bs.length ≤ room) : (putB room bs ds).length ≤ room := by
  unfold putB; split
  · simp; omega
  · exact hb
/-- What the second one has, as far as it is known: all, if all came. -/
def Sofar (room : Nat) (all bs : List UInt8) (fits : Bool) : Prop := (fits = decide (all.length ≤ room)) ∧ (all.length ≤ room → bs = all)
theorem sofar_step {room : Nat} {all bs ds : List UInt8} {fits : Bool} (h : Sofar room all bs fits) : Sofar room (all ++ ds) (putB room bs ds) (decide (putE room bs ds = 0) && fits) := by
  obtain ⟨h1, h2⟩ := h
  by_cases ha : all.length ≤ room
  · obtain rfl := h2 ha
    have hf : fits = true := by rw [h1]; simpa using ha
    subst hf
    unfold putE putB Sofar
    by_cases hy : bs.length + ds.length ≤ room
    · simp [hy]
    · rw [if_neg hy, if_neg hy]
      refine ⟨by simp; omega, fun h => ?_⟩
      simp at h; omega
  · have hf : fits = false := by rw [h1]; simpa using ha
    subst hf
    refine ⟨?_, fun h => ?_⟩
    · simp; omega
    · simp at h; omega
theorem sofar_bool {room : Nat} {bs ds : List UInt8} {fits : Bool} : (decide (putE room bs ds = 0) && fits) = (if bs.length + ds.length ≤ room then fits else false) := by
  unfold putE; split <;> simp

set_option maxHeartbeats 1000000 in
theorem quotaParts_any (r : Nat) (A : Option Addr) (len cap : Nat) (ls : List ByteArray) (w : World) (hr : r < 256) (hs : StrRow w A len ls) (hbd : (flat ls).length ≤ 1048576) :
    Calls Try.prog 3 #[.int .u8 r, .slice A len cap] w fun e w' => e = .returned (.bool true) ∧ Below w.heap.size w w' := by
  have HK := Lib.hid fun w' => knows_any w'
  have hl2 := hs.2.1
  have HLEN := Lib.hid hs.1
  have HN := Lib.hid fun w' => new_good w' r (by omega)
  have HBD := Lib.hid hbd
  have HSR := Lib.hid hs
  clear hbd hs
  go_enter Try.func3, Try.ntmps3
  go_wp2_with fail
  refine (HN.out _).mono ?_
  rintro e w1 ⟨rfl, ho1, hs1, hb1⟩
  have HO1 := Lib.hid ho1
  have HS1 := Lib.hid hs1
  have HB1 := Lib.hid hb1
  clear ho1 hs1 hb1
  go_wp2_with fail
  refine (HN.out _).mono ?_
  rintro e w2 ⟨rfl, ho2, hs2, hb2⟩
  have HA : Hid (OutAt w2 w.heap.size (.slice none 0 0) [] r) := Lib.hid (HO1.out.below hb2)
  have HB : Hid (OutAt w2 w1.heap.size (.slice none 0 0) [] r) := Lib.hid ho2
  have HW : Hid (Below w.heap.size w w2) := Lib.hid (HB1.out.trans (hb2.mono HB1.out.size))
  obtain ⟨ga, hga⟩ : ∃ ga, w.heap.size = ga := ⟨_, rfl⟩
  obtain ⟨gb, hgb⟩ : ∃ gb, w1.heap.size = gb := ⟨_, rfl⟩
  have HGA : Hid (w.heap.size ≤ ga) := Lib.hid (by omega)
  have HGB : Hid (ga < gb) := Lib.hid (by have := HS1.out; omega)
  have HA : Hid (OutAt w2 ga (.slice none 0 0) [] r) := Lib.hid (by rw [← hga]; exact HA.out)
  have HB : Hid (OutAt w2 gb (.slice none 0 0) [] r) := Lib.hid (by rw [← hgb]; exact HB.out)
  rw [hga, hgb]
  clear hga hgb ho2 hs2 hb2 HO1 HS1 HB1
  have HPA := Lib.hid (put_any w2 ga _ [] r HA.out (by omega) (by simp) A len cap ls (HSR.out.below HW.out) (fun hp p hA => by
    obtain ⟨b, off, he, hlt, _⟩ := HSR.out.2.2.2 hp
    rw [he] at hA
    have hpp : (⟨b, off, none⟩ : Addr) = p := Option.some.inj hA
    subst hpp
    exact ⟨by have := HGA.out; show b ≠ ga; omega, by simp [Value.ownBlock]⟩) (by have := HBD.out; simp; omega))
  go_wp2_with fail
  refine HPA.out.mono ?_
  rintro e w3 ⟨rfl, hk3, va, hro, hoa⟩
  have HVA : Hid (∀ j, va.ownBlock = some j → w.heap.size ≤ j ∧ j ≠ gb) := Lib.hid (by
    intro j hj
    rcases hro with h | ⟨n, hn, h⟩
    · rw [h] at hj; simp [Value.ownBlock] at hj
    · rw [h] at hj
      have : n = j := Option.some.inj hj
      have h1 := HB.out.lt
      have h2 := HW.out.size
      exact ⟨by omega, by omega⟩)
  have HB : Hid (OutAt w3 gb (.slice none 0 0) [] r) := Lib.hid (HB.out.kept hk3 (by have := HGB.out; omega) (by simp [Value.ownBlock]) (by simp [Value.ownBlock]) (.inl rfl))
  have HW : Hid (Below w.heap.size w w3) := Lib.hid (hk3.below HW.out HW.out.size HGA.out (fun k hk => by simp [Value.ownBlock] at hk))
  have HA := Lib.hid hoa
  clear hk3 hro hoa HPA
  obtain ⟨eA, heA⟩ : ∃ eA, putE r [] (flat ls) = eA := ⟨_, rfl⟩
  obtain ⟨bA, hbA⟩ : ∃ bA, putB r [] (flat ls) = bA := ⟨_, rfl⟩
  have HEA := Lib.hid heA
  have HBA := Lib.hid hbA
  rw [heA]
  rw [hbA] at HA
  clear heA hbA
  go_wp2
  go_loopw [10, 11, 12] (fun s f i wr => ∃ (k : Nat) (vb : Value) (bs : List UInt8) (fits : Bool), k ≤ len ∧ i = .int .i64 k ∧ s = .string (bstr (flat (ls.take k))) ∧ f = .bool fits ∧ Sofar r (flat (ls.take k)) bs fits ∧ bs.length ≤ r ∧
    OutAt wr ga va bA r ∧ OutAt wr gb vb bs r ∧ Below w.heap.size w wr ∧ (∀ j, vb.ownBlock = some j → w.heap.size ≤ j ∧ j ≠ ga ∧ va.ownBlock ≠ some j)) (fun _ _ i _ => len - (intOf i).toNat)
  case atStart => exact ⟨0, _, [], true, by omega, rfl, rfl, rfl, ⟨by simp [flat], fun _ => by simp [flat]⟩, by simp, HA.out, HB.out, HW.out, fun j hj => by simp [Value.ownBlock] at hj⟩
  case round =>
    obtain ⟨k, vb, bs, fits, hk, rfl, rfl, rfl, hso, hbl, hoa, hob, hbw, hvb⟩ := hrel
    have HA := Lib.hid hoa
    have HB := Lib.hid hob
    have HW := Lib.hid hbw
    have HVB := Lib.hid hvb
    have HSO := Lib.hid hso
    have HBL := Lib.hid hbl
    clear hoa hob hbw hvb hso hbl
    by_cases hlt : k < len
    · obtain ⟨b, off, s, rfl, hbl, hs1, hs2, hc0⟩ := HSR.out.at_ hlt
      have hc : wr.cell? ⟨b, off + k, none⟩ = some (.string s) := (HW.out.cell (p := ⟨b, off + k, none⟩) hbl).trans hc0
      have hfl := flat_take ls k s hs1
      have h2 := flat_le ls (k + 1)
      have h3 := HBD.out
      have e1 : (flat (ls.take (k + 1))).length = (flat (ls.take k)).length + s.size := by rw [hfl]; simp
      have hsz : (bstr (flat (ls.take k))).size + s.size ≤ 1099511627776 := by
        rw [bstr_size]; omega
      have hss : s.size ≤ 1048576 := by omega
      have HNX : Hid (bstr (flat (ls.take k)) ++ s = bstr (flat (ls.take (k + 1)))) := by show _ = _; rw [bstr_app, hfl]
      have HFL := Lib.hid hfl
      have HP := Lib.hid (put_any (wr.alloc (.cells #[.string s] 9)) gb vb bs r (HB.out.below ((Below.refl _ _).alloc (Nat.le_refl _) _)) (by omega) HBL.out (some ⟨wr.heap.size, 0, none⟩) 1 1 [s] (srow_alloc wr [s] 9 (by simp) (by simpa using hs2)) (fun _ p hp => by
        have : (⟨wr.heap.size, 0, none⟩ : Addr) = p := Option.some.inj hp
        subst this
        refine ⟨by have := HB.out.lt; show wr.heap.size ≠ gb; omega, fun e => ?_⟩
        have := own_lt HB.out.own e
        simp at this) (by have := HBL.out; simp [flat]; omega))
      have hflat1 : flat [s] = s.data.toList := by simp [flat]
      rw [hflat1] at HP
      obtain ⟨t, ht⟩ : ∃ t, bstr (flat (ls.take k)) = t := ⟨_, rfl⟩
      rw [ht] at HNX hsz ⊢
      clear hfl h2 h3 ht hs1 e1 hflat1 hc0
      have HOWN : ∀ {w4 : World} {vb' : Value}, RowOr (wr.alloc (.cells #[.string s] 9)).heap.size vb.ownBlock vb'.ownBlock → Hid (∀ j, vb'.ownBlock = some j → w.heap.size ≤ j ∧ j ≠ ga ∧ va.ownBlock ≠ some j) := fun {w4 vb'} hro => Lib.hid (by
        intro j hj
        rcases hro with h | ⟨n, hn, h⟩
        · exact HVB.out j (h ▸ hj)
        · rw [h] at hj
          have e : n = j := Option.some.inj hj
          have h1 := HA.out.lt
          have h2 := HW.out.size
          simp at hn
          refine ⟨by omega, by omega, fun e2 => ?_⟩
          have := own_lt HA.out.own e2
          omega)
      have HSO' := Lib.hid (sofar_step (ds := s.data.toList) HSO.out)
      by_cases hy : bs.length + s.data.toList.length ≤ r
      all_goals
        have hE : putE r bs s.data.toList = (if bs.length + s.data.toList.length ≤ r then 0 else 6) := rfl
        first | rw [if_pos hy] at hE | rw [if_neg hy] at hE
        have hBB : (putB r bs s.data.toList).length ≤ r := putB_le HBL.out
        rw [sofar_bool] at HSO'
        first | rw [if_pos hy] at HSO' | rw [if_neg hy] at HSO'
        rw [hE] at HP
        have HBB := Lib.hid hBB
        clear hy hE hBB
        go_wp2_with fail
        refine HP.out.mono ?_
        rintro e w4 ⟨rfl, hk4, vb', hro4, hob4⟩
        have HVB' := HOWN (w4 := w4) hro4
        have hb5 : Below w.heap.size w (wr.alloc (.cells #[.string s] 9)) := HW.out.alloc HW.out.size _
        have HW' : Hid (Below w.heap.size w w4) := Lib.hid (hk4.below hb5 hb5.size (by have := HGA.out; have := HGB.out; omega) (fun j hj => (HVB.out j hj).1))
        have HA' : Hid (OutAt w4 ga va bA r) := Lib.hid ((HA.out.below ((Below.refl _ _).alloc (Nat.le_refl _) _)).kept hk4 (by have := HGB.out; omega) (fun e => (HVB.out ga e).2.1 rfl) (fun e => (HVA.out gb e).2 rfl) (by
          cases hv : va.ownBlock with
          | none => exact .inl rfl
          | some j => exact .inr fun e => (HVB.out j e.symm).2.2 hv))
        have HOB := Lib.hid hob4
        clear hk4 hro4 hob4 hb5
        go_wp2
        go_roundw
        case rel => exact ⟨k + 1, _, _, _, by omega, by go_num, by rw [HNX.out], rfl, by rw [HFL.out]; exact HSO'.out, HBB.out, HA'.out, HOB.out, HW'.out, HVB'.out⟩
        case measure => simp [intOf]; omega
    · have Hk : Hid (ls.take k = ls) := by show _ = _; exact List.take_of_length_le (by rw [HLEN.out]; omega)
      rw [Hk.out] at HSO ⊢
      have HTA := Lib.hid (text_any wr ga va bA r HA.out)
      have HTB := Lib.hid (text_any wr gb vb bs r HB.out)
      by_cases hfit : (flat ls).length ≤ r
      · have e1 : bA = flat ls := by rw [← HBA.out]; unfold putB; rw [if_pos (by simpa using hfit)]; rfl
        have e2 : eA = 0 := by rw [← HEA.out]; unfold putE; rw [if_pos (by simpa using hfit)]
        have e3 : bs = flat ls := HSO.out.2 hfit
        have e4 : fits = true := by rw [HSO.out.1]; simpa using hfit
        subst e1 e2 e3 e4
        have j : decide (r < (bstr (flat ls)).size) = false := decide_eq_false (by rw [bstr_size]; omega)
        change Hid (Calls _ _ _ _ fun e w' => e = .returned (.string (bstr (flat ls))) ∧ w' = wr) at HTA HTB
        obtain ⟨t, ht⟩ : ∃ t, bstr (flat ls) = t := ⟨_, rfl⟩
        rw [ht] at j HTA HTB ⊢
        clear ht hfit
        go_wp2_with fail
        refine HTA.out.mono ?_
        rintro e w5 ⟨rfl, rfl⟩
        go_wp2_with fail
        refine HTB.out.mono ?_
        rintro e w5 ⟨rfl, rfl⟩
        go_wp2_with fail
        refine (HK.out _).mono ?_
        rintro e w6 ⟨rfl, hb6⟩
        go_wp2
        go_ret
        exact ⟨rfl, HW.out.trans (hb6.mono HW.out.size)⟩
      · have e1 : bA = [] := by rw [← HBA.out]; unfold putB; rw [if_neg (by simpa using hfit)]
        have e2 : eA = 6 := by rw [← HEA.out]; unfold putE; rw [if_neg (by simpa using hfit)]
        have e4 : fits = false := by rw [HSO.out.1]; simpa using hfit
        subst e1 e2 e4
        have j : decide (r < (bstr (flat ls)).size) = true := decide_eq_true (by rw [bstr_size]; omega)
        obtain ⟨t, ht⟩ : ∃ t, bstr (flat ls) = t := ⟨_, rfl⟩
        rw [ht] at j ⊢
        clear ht hfit
        go_wp2_with fail
        refine HTA.out.mono ?_
        rintro e w5 ⟨rfl, rfl⟩
        go_wp2_with fail
        refine (HK.out _).mono ?_
        rintro e w6 ⟨rfl, hb6⟩
        go_wp2
        go_ret
        exact ⟨rfl, HW.out.trans (hb6.mono HW.out.size)⟩
theorem quotaParts_walk (c : Int) (A : Option Addr) (len cap : Nat) (ls : List ByteArray) (w : World) (hw : (Lit.int .u8 c).wf = true) (hs : StrRow w A len ls) (hbd : (flat ls).length ≤ 1048576) :
    Calls Try.prog 3 #[.int .u8 c, .slice A len cap] w fun e w' => e = .returned (.bool true) ∧ Below w.heap.size w w' := by
  have := bounds_u8 hw
  obtain ⟨r, rfl⟩ : ∃ r : Nat, c = r := ⟨c.toNat, by omega⟩
  exact quotaParts_any r A len cap ls w (by omega) hs hbd
end Go.Proofs.Ytajfnkboeaflnaa
