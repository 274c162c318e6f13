import Derived.Test.YtlndiddplfoceaaPSp
import Derived.Test.YtlndiddplfoceaaRSp
import Derived.Test.YtlndiddplfoceaaBp
set_option linter.unusedVariables false
set_option linter.unusedSimpArgs false
namespace Go.Proofs.Ytlndiddplfoceaa
open Go.RowKit

theorem Sl.drewN {sz : Nat} {w : World} {A : Option Addr} {n : Nat} {cs : List Value} (h : Sl sz w A n cs) (m : Nat) : Sl sz (w.drewN m) A n cs := ⟨h.len, h.max, h.at_⟩
theorem key_at {l l' : List OpV} (h : l'.map keyO = l.map keyO) {i : Nat} {x y : OpV} (hx : l[i]? = some x) (hy : l'[i]? = some y) : y.off = x.off ∧ y.len = x.len ∧ y.n = x.n ∧ y.d = x.d := by
  have h1 := congrArg (fun z => z[i]?) h
  simp only [List.getElem?_map, hx, hy, Option.map_some, Option.some.injEq, keyO, Prod.mk.injEq] at h1
  exact h1
set_option maxRecDepth 100000 in
set_option maxHeartbeats 2000000 in
theorem splits_any (A : Option Addr) (n c : Nat) (l : List OpV) (old : Int) (w : World) (hs : Sl 3 w A n (encsO l)) (hn : n ≤ 1099511627776)
    (hlo : -9223372036854775808 ≤ old) (hhi : old ≤ 9223372036854775807) (hin : ∀ o ∈ l, -9223372036854775808 ≤ o.off ∧ o.off ≤ 9223372036854775807)
    (hd : ∀ o ∈ l, Sl 1 w o.A o.n (bys o.d) ∧ o.n ≤ 1099511627776) :
    Calls Try.prog 5 #[.slice A n c, .int .i64 old] w fun e w' => e = .returned (.bool true) ∧ Below w.heap.size w w' := by
  have HS := Lib.hid hs
  have HD := Lib.hid hd
  have HIN := Lib.hid hin
  clear hs hd hin
  go_enter Try.func5, Try.ntmps5
  go_wp2_with fail
  refine (psplit_any A n c l old _ w rfl HS.out hn hlo hhi HIN.out (fun o ho => ⟨(HD.out o ho).1, by have := (HD.out o ho).2; omega⟩)).mono ?_
  rintro e w1 ⟨h1, hb1⟩
  have HB1 := Lib.hid hb1
  have HS1 := Lib.hid (HS.out.below hb1)
  have key := (rsplit_any A n c l old _ w1 rfl HS1.out hn hlo hhi HIN.out)
  rcases h1 with ⟨hno, v, l', rfl, hown, hkey, hdat⟩ | ⟨hbad, rfl⟩
  · have key2 : Calls Try.prog 11 #[.slice A n c, .int .i64 old] w1 fun e w' => ∃ v2, e = .returned (.tuple #[v2, .bool true]) ∧ w'.ownsRow w1.heap.size 35 3 v2 n (encsO l) ∧ Below w1.heap.size w1 w' := by
      refine key.mono ?_
      rintro e w' ⟨h, hb⟩
      rcases h with ⟨_, v2, rfl, ho⟩ | ⟨⟨o, ho, hb0⟩, _⟩
      · exact ⟨v2, rfl, ho, hb⟩
      · exact absurd hb0 (hno o ho)
    clear key
    have KEY := Lib.hid key2
    have HOW := Lib.hid hown
    have HKE := Lib.hid hkey
    have HDA := Lib.hid hdat
    obtain ⟨A1, c1, rfl, hc1, _⟩ := own_sl hown
    clear key2 hown hkey hdat hno hb1
    go_wp2_with fail
    refine KEY.out.mono ?_
    rintro e w2 ⟨v2, rfl, hown2, hb2⟩
    obtain ⟨A2, c2, rfl, hc2, hsl2, _⟩ := own_sl hown2
    have HSL2 := Lib.hid hsl2
    obtain ⟨A1', c1', e1, hc1', hsl1, _⟩ := own_sl HOW.out
    cases e1
    have HSL1 := Lib.hid (hsl1.below hb2)
    have HD1 := Lib.hid (show ∀ o ∈ l', Sl 1 w2 o.A o.n (bys o.d) from fun o ho => (HDA.out o ho).sl.below hb2)
    have HD2 := Lib.hid (show ∀ o ∈ l, Sl 1 w2 o.A o.n (bys o.d) from fun o ho => ((HD.out o ho).1.below HB1.out).below hb2)
    have HB2 := Lib.hid (HB1.out.trans (hb2.mono HB1.out.size))
    clear hown2 hb2 hsl2 hsl1 KEY HOW HDA
    go_wp2_with fail
    go_loopw [9] (fun a wr => ∃ i k : Nat, a = .int .i64 i ∧ i ≤ n ∧ wr = w2.drewN k) (fun a _ => n - (intOf a).toNat)
    case atStart => exact ⟨0, 0, rfl, by omega, rfl⟩
    case round =>
      obtain ⟨i, k, rfl, hin, rfl⟩ := hrel
      rcases Nat.lt_or_ge i n with h | h
      · obtain ⟨b1, o1, x, hA1, hr1, c0, c1, c2⟩ := HSL1.out.row3 h
        obtain ⟨b2, o2, y, hA2, hr2, d0, d1, d2⟩ := HSL2.out.row3 h
        subst hA1 hA2
        obtain ⟨k1, k2, k3, k4⟩ := key_at HKE.out hr2 hr1
        have hv1 := fun m : Nat => run_conv_str (P := Try.prog) (w := (w2.drewN k).drewN m) (src := 23) Try.underlying23 Try.underlying5 (dst := 9) Try.underlying9 (c := x.c) (((HD1.out x (List.mem_of_getElem? hr1)).drewN k).drewN m)
        have hv2 := fun m : Nat => run_conv_str (P := Try.prog) (w := (w2.drewN k).drewN m) (src := 23) Try.underlying23 Try.underlying5 (dst := 9) Try.underlying9 (c := y.c) (((HD2.out y (List.mem_of_getElem? hr2)).drewN k).drewN m)
        have hv3 := fun m : Nat => run_conv_str (P := Try.prog) (w := w2.drewN m) (src := 23) Try.underlying23 Try.underlying5 (dst := 9) Try.underlying9 (c := x.c) ((HD1.out x (List.mem_of_getElem? hr1)).drewN m)
        have hv4 := fun m : Nat => run_conv_str (P := Try.prog) (w := w2.drewN m) (src := 23) Try.underlying23 Try.underlying5 (dst := 9) Try.underlying9 (c := y.c) ((HD2.out y (List.mem_of_getElem? hr2)).drewN m)
        obtain ⟨x0, x1, xA, xn, xc, xd⟩ := x
        obtain ⟨y0, y1, yA, yn, yc, yd⟩ := y
        simp only at k1 k2 k3 k4 c0 c1 c2 d0 d1 d2 hv1 hv2 hv3 hv4
        subst k1 k2 k3 k4
        clear hr1 hr2
        go_wp2_with fail
        go_quiet (fail)
        go_wp2_with fail
        go_roundw
        case rel => exact ⟨i+1, _, by go_num, by omega, rfl⟩
        case measure => simp [intOf]; omega
      · obtain rfl : i = n := by omega
        go_wp2_with fail
        go_ret
        exact ⟨rfl, below_drewN HB2.out _⟩
  · have key2 : Calls Try.prog 11 #[.slice A n c, .int .i64 old] w1 fun e w' => e = .returned (.tuple #[.slice none 0 0, .bool false]) ∧ Below w1.heap.size w1 w' := by
      refine key.mono ?_
      rintro e w' ⟨h, hb⟩
      rcases h with ⟨hno, _⟩ | ⟨_, rfl⟩
      · obtain ⟨o, ho, hb0⟩ := hbad
        exact absurd hb0 (hno o ho)
      · exact ⟨rfl, hb⟩
    have KEY := Lib.hid key2
    clear key key2 hbad hb1
    go_wp2_with fail
    refine KEY.out.mono ?_
    rintro e w2 ⟨rfl, hb2⟩
    have HB2 := Lib.hid (HB1.out.trans (hb2.mono HB1.out.size))
    clear hb2
    go_wp2_with fail
    go_loopw [9] (fun a wr => a = .int .i64 0 ∧ wr = w2) (fun _ _ => 0)
    case atStart => exact ⟨rfl, rfl⟩
    case round =>
      obtain ⟨rfl, rfl⟩ := hrel
      go_wp2_with fail
      go_ret
      exact ⟨rfl, HB2.out⟩
end Go.Proofs.Ytlndiddplfoceaa
