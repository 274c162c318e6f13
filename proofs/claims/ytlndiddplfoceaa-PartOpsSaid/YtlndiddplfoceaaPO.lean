import Derived.Test.YtlndiddplfoceaaDa
import Derived.Test.YtlndiddplfoceaaAwk
/-! The walk of PartOps. -/
set_option linter.unusedVariables false
set_option linter.unusedSimpArgs false
namespace Go.Proofs.Ytlndiddplfoceaa
open Go.RowKit

theorem split_one {a b : List UInt8} {x y : OpV} (hk : keyO y = keyO x) (hg : OneOk ((a.length + b.length : Nat) : Int) x) (hno : ¬ BadO a.length x) :
    OneOk a.length y ∧ lenO y = lenO x ∧ makeO a y = makeO (a ++ b) x := by
  obtain ⟨x0, x1, xA, xn, xc, xd⟩ := x
  obtain ⟨y0, y1, yA, yn, yc, yd⟩ := y
  simp only [keyO, Prod.mk.injEq] at hk
  obtain ⟨rfl, rfl, rfl, rfl⟩ := hk
  unfold OneOk BadO at *
  simp only at hg hno ⊢
  refine ⟨by omega, rfl, ?_⟩
  unfold makeO
  simp only
  split
  · rfl
  · have h1 : y0.toNat + y1.toNat ≤ a.length := by omega
    rw [List.drop_append_of_le_length (by omega), List.take_append_of_le_length (by rw [List.length_drop]; omega)]
theorem split_all {a b : List UInt8} : ∀ {l l' : List OpV}, l'.map keyO = l.map keyO → (∀ o ∈ l, OneOk ((a.length + b.length : Nat) : Int) o) → (∀ o ∈ l, ¬ BadO a.length o) →
    (∀ o ∈ l', OneOk a.length o) ∧ totO l' = totO l ∧ applyO a l' = applyO (a ++ b) l
  | [], [], _, _, _ => ⟨by simp, rfl, rfl⟩
  | x :: l, y :: l', hk, hg, hno => by
    simp only [List.map_cons, List.cons.injEq] at hk
    obtain ⟨h1, h2, h3⟩ := split_all hk.2 (fun o ho => hg o (List.mem_cons_of_mem _ ho)) (fun o ho => hno o (List.mem_cons_of_mem _ ho))
    obtain ⟨g1, g2, g3⟩ := split_one hk.1 (hg x List.mem_cons_self) (hno x List.mem_cons_self)
    refine ⟨fun o ho => ?_, ?_, ?_⟩
    · rcases List.mem_cons.1 ho with rfl | ho
      · exact g1
      · exact h1 o ho
    · unfold totO at h2 ⊢; simp only [List.map_cons, List.sum_cons]; omega
    · unfold applyO at h3 ⊢; rw [List.flatMap_cons, List.flatMap_cons, h3, g3]
  | [], y :: l', hk, _, _ => by simp at hk
  | x :: l, [], hk, _, _ => by simp at hk
theorem key_mem {l l' : List OpV} (hk : l'.map keyO = l.map keyO) {y : OpV} (hy : y ∈ l') : ∃ x ∈ l, keyO y = keyO x := by
  have : keyO y ∈ l.map keyO := hk ▸ List.mem_map_of_mem hy
  obtain ⟨x, hx, he⟩ := List.mem_map.1 this
  exact ⟨x, hx, he.symm⟩
/-- The first text alone doesn't hold what the op copies. -/
def Beh (n : Int) (o : OpV) : Prop := o.n = 0 ∧ n < o.off + o.len
theorem mxI_nat (n : Nat) : mxI (n : Int) 0 = n := by unfold mxI; split <;> omega

set_option maxRecDepth 100000 in
set_option maxHeartbeats 4000000 in
theorem partOps_any (A B L : Option Addr) (n c m d q qc : Nat) (a b : List UInt8) (l : List OpV) (w : World) (ha : Sl 1 w A n (bys a)) (hb : Sl 1 w B m (bys b)) (hc : n ≤ c) (hn : n ≤ 140737488355328) (hm : m ≤ 140737488355328) (hl : Sl 3 w L q (encsO l)) (hq : q ≤ 140737488355328)
    (hin : ∀ o ∈ l, -9223372036854775808 ≤ o.off ∧ o.off ≤ 9223372036854775807) (hle : ∀ o ∈ l, -9223372036854775808 ≤ o.len ∧ o.len ≤ 9223372036854775807) (hd : ∀ o ∈ l, Sl 1 w o.A o.n (bys o.d) ∧ o.n ≤ 140737488355328) :
    Calls Try.prog 4 #[.slice A n c, .slice B m d, .slice L q qc] w fun e w' => e = .returned (.bool true) ∧ Below w.heap.size w w' := by
  have HA := Lib.hid ha
  have HBB := Lib.hid hb
  have HL := Lib.hid hl
  have HIN := Lib.hid hin
  have HLE := Lib.hid hle
  have HD := Lib.hid hd
  have HAL := Lib.hid (show a.length = n by have := ha.len; simpa [bys] using this)
  have HBL := Lib.hid (show b.length = m by have := hb.len; simpa [bys] using this)
  have HQ := Lib.hid hl.ops
  clear ha hb hl hin hle hd
  go_enter Try.func4, Try.ntmps4
  by_cases hg1 : 5000 < (n : Int) + m
  · have d1 : decide (5000 < (n : Int) + m) = true := by simpa using hg1
    go_wp2_with fail
    refine (awake_any _).mono ?_
    rintro e w1 ⟨rfl, hb1⟩
    have HB1 := Lib.hid hb1
    clear hb1
    go_wp2_with fail
    go_ret
    exact ⟨rfl, HB1.out⟩
  by_cases hg2 : 60 < (q : Int)
  · have d1 : decide (5000 < (n : Int) + m) = false := by simpa using hg1
    have d2 : decide (60 < (q : Int)) = true := by simpa using hg2
    go_wp2_with fail
    refine (awake_any _).mono ?_
    rintro e w1 ⟨rfl, hb1⟩
    have HB1 := Lib.hid hb1
    clear hb1
    go_wp2_with fail
    go_ret
    exact ⟨rfl, HB1.out⟩
  have d1 : decide (5000 < (n : Int) + m) = false := by simpa using hg1
  have d2 : decide (60 < (q : Int)) = false := by simpa using hg2
  go_wp2_with fail
  refine (both_cap A B n c m d a b _ HA.out HBB.out (by omega) (by omega)).mono ?_
  rintro e w1 ⟨R1, k1, rfl, hs1, hb1, hk1⟩
  have HB1 := Lib.hid hb1
  have HS1 := Lib.hid hs1
  have HIL : Hid (∀ o ∈ l, Sl 1 w1 o.A o.n (bys o.d) ∧ o.n ≤ 140737488355328) := Lib.hid fun o ho => ⟨(HD.out o ho).1.below hb1, (HD.out o ho).2⟩
  have HL1 := Lib.hid (HL.out.below hb1)
  have HA1 := Lib.hid (HA.out.below hb1)
  clear hb1 hs1
  go_wp2_with fail
  refine (apply_any R1 L (n + m) k1 q qc (a ++ b) l _ HS1.out hk1 (by omega) HL1.out (by omega) HIN.out HLE.out HIL.out).mono ?_
  rintro e w2 ⟨hap, hb2⟩
  have HB2 := Lib.hid (HB1.out.trans (hb2.mono HB1.out.size))
  have HL2 := Lib.hid (HL1.out.below hb2)
  have HA2 := Lib.hid (HA1.out.below hb2)
  have HD2 : Hid (∀ o ∈ l, Sl 1 w2 o.A o.n (bys o.d) ∧ o.n ≤ 140737488355328) := Lib.hid fun o ho => ⟨(HIL.out o ho).1.below hb2, (HIL.out o ho).2⟩
  have SP := Lib.hid (psplit_any L q qc l n n w2 (mxI_nat n) HL2.out (by omega) (by omega) (by omega) HIN.out HD2.out)
  clear hb2
  rcases hap with ⟨hg, ht, RX, mX, kX, rfl, hX⟩ | ⟨hg, k, rfl, hk0⟩
  · have HG := Lib.hid hg
    have HT := Lib.hid ht
    have HX := Lib.hid hX
    clear hg ht hX
    go_wp2_with fail
    refine SP.out.mono ?_
    rintro e w3 ⟨hsp, hb3⟩
    have HB3 := Lib.hid (HB2.out.trans (hb3.mono HB2.out.size))
    have HA3 := Lib.hid (HA2.out.below hb3)
    have HX3 := Lib.hid (HX.out.below hb3)
    have HL3 := Lib.hid (HL2.out.below hb3)
    clear hb3 SP
    rcases hsp with ⟨hno, v, l', rfl, hown, hkey, hdat⟩ | ⟨hbad, rfl⟩
    · obtain ⟨Am, cm, rfl, hcm, hsm, _, _⟩ := own_sl hown
      have hg' : ∀ o ∈ l, OneOk ((a.length + b.length : Nat) : Int) o := fun o ho => by rw [HAL.out, HBL.out]; exact HG.out o ho
      have hno' : ∀ o ∈ l, ¬ BadO a.length o := fun o ho => by rw [HAL.out]; exact hno o ho
      obtain ⟨r1, r2, r3⟩ := split_all hkey hg' hno'
      rw [HAL.out] at r1
      have HR1 := Lib.hid r1
      have HR2 := Lib.hid r2
      have HR3 := Lib.hid r3
      have hIN' : ∀ o ∈ l', -9223372036854775808 ≤ o.off ∧ o.off ≤ 9223372036854775807 := fun y hy => by
        obtain ⟨x, hx, he⟩ := key_mem hkey hy
        have := HIN.out x hx
        simp only [keyO, Prod.mk.injEq] at he; rw [he.1]; exact this
      have hLE' : ∀ o ∈ l', -9223372036854775808 ≤ o.len ∧ o.len ≤ 9223372036854775807 := fun y hy => by
        obtain ⟨x, hx, he⟩ := key_mem hkey hy
        have := HLE.out x hx
        simp only [keyO, Prod.mk.injEq] at he; rw [he.2.1]; exact this
      have hD' : ∀ o ∈ l', Sl 1 w3 o.A o.n (bys o.d) ∧ o.n ≤ 140737488355328 := fun y hy => by
        obtain ⟨x, hx, he⟩ := key_mem hkey hy
        have := (HD.out x hx).2
        simp only [keyO, Prod.mk.injEq] at he; exact ⟨(hdat y hy).sl, by rw [he.2.2.1]; exact this⟩
      have AP := Lib.hid (apply_any A Am n c q cm a l' w3 HA3.out hc (by omega) hsm (by omega) hIN' hLE' hD')
      clear hno hown hkey hdat hsm hg' hno' r1 r2 r3 hIN' hLE' hD'
      go_wp2_with fail
      refine AP.out.mono ?_
      rintro e w4 ⟨hap, hb4⟩
      have HB4 := Lib.hid (HB3.out.trans (hb4.mono HB3.out.size))
      have hX4 := HX3.out.below hb4
      rcases hap with ⟨_, _, RY, mY, kY, rfl, hY⟩ | ⟨hbad, _⟩
      · rw [HR3.out] at hY
        have hv1 := run_conv_str (P := Try.prog) (src := 23) Try.underlying23 Try.underlying5 (dst := 9) Try.underlying9 (c := kX) hX4
        have hv2 := run_conv_str (P := Try.prog) (src := 23) Try.underlying23 Try.underlying5 (dst := 9) Try.underlying9 (c := kY) hY
        clear hX4 hY hb4 AP
        go_wp2_with fail
        refine (awake_any _).mono ?_
        rintro e w5 ⟨rfl, hb5⟩
        have HB5 := Lib.hid (HB4.out.trans (hb5.mono HB4.out.size))
        clear hb5
        go_wp2_with fail
        go_ret
        exact ⟨rfl, HB5.out⟩
      · exact absurd ⟨HR1.out, by rw [HR2.out]; exact HT.out⟩ hbad
    · have HBAD : Hid (∃ o ∈ l, Beh n o) := Lib.hid (by
        obtain ⟨o, ho, h1⟩ := hbad
        refine ⟨o, ho, ?_⟩
        have h2 := HG.out o ho
        unfold BadO at h1
        unfold OneOk at h2
        unfold Beh
        omega)
      clear hbad
      go_wp2_with fail
      go_loopw [12, 13] (fun v a wr => ∃ (i k : Nat) (t : Bool), a = .int .i64 i ∧ i ≤ q ∧ v = .bool t ∧ (t = true ↔ ∃ o ∈ l.take i, Beh n o) ∧ wr = w3.drewN k) (fun _ a _ => q - (intOf a).toNat)
      case atStart => exact ⟨0, 0, false, rfl, by omega, rfl, by simp, rfl⟩
      case round =>
        obtain ⟨i, k, t, rfl, hiq, rfl, hit, rfl⟩ := hrel
        have HIT := Lib.hid hit
        clear hit
        rcases Nat.lt_or_ge i q with h | h
        · obtain ⟨b1, o1, x, hA1, hr1, c0, c1, c2⟩ := HL3.out.row3 h
          subst hA1
          have hmem : x ∈ l := List.mem_of_getElem? hr1
          have hok := HG.out x hmem
          have hsn : (∃ o ∈ l.take (i+1), Beh n o) ↔ t = true ∨ Beh n x := by
            rw [take_snocO hr1, HIT.out]
            constructor
            · rintro ⟨o, ho, h⟩
              rcases List.mem_append.1 ho with h' | h'
              · exact .inl ⟨o, h', h⟩
              · simp only [List.mem_singleton] at h'; subst h'; exact .inr h
            · rintro (⟨o, h', h⟩ | h)
              · exact ⟨o, List.mem_append_left _ h', h⟩
              · exact ⟨x, List.mem_append_right _ (List.mem_singleton.2 rfl), h⟩
          have HSN := Lib.hid hsn
          clear hsn hr1 hmem
          cases t with
          | true =>
            clear hok
            go_wp2_with fail
            go_quiet (fail)
            go_wp2_with fail
            go_roundw
            case rel => exact ⟨i+1, _, true, by go_num, by omega, rfl, ⟨fun _ => HSN.out.2 (.inl (by simp)), fun _ => rfl⟩, rfl⟩
            case measure => simp [intOf]; omega
          | false =>
            by_cases h0 : x.n = 0
            · have hx : 0 ≤ x.off ∧ x.off ≤ 5000 ∧ 1 ≤ x.len ∧ x.len ≤ 5000 := by unfold OneOk at hok; omega
              have hz : ((x.n : Int) == 0) = true := by simp [h0]
              have hw : IntKind.i64.wrap (x.off + x.len) = x.off + x.len := by rw [IntKind.wrap_i64]; omega
              obtain ⟨hx0, hx1, hx2, hx3⟩ := hx
              by_cases h1 : (n : Int) < x.off + x.len
              · have hd1 : decide ((n : Int) < x.off + x.len) = true := by simpa using h1
                have HBE := Lib.hid (show Beh n x from ⟨h0, h1⟩)
                clear hok h0 h1
                go_wp2_with fail
                go_quiet (fail)
                go_wp2_with fail
                go_roundw
                case rel => exact ⟨i+1, _, true, by go_num, by omega, rfl, ⟨fun _ => HSN.out.2 (.inr HBE.out), fun _ => rfl⟩, rfl⟩
                case measure => simp [intOf]; omega
              · have hd1 : decide ((n : Int) < x.off + x.len) = false := by simpa using h1
                have HBE := Lib.hid (show ¬ Beh n x from fun hh => h1 hh.2)
                clear hok h0 h1
                go_wp2_with fail
                go_quiet (fail)
                go_wp2_with fail
                go_roundw
                case rel => exact ⟨i+1, _, false, by go_num, by omega, rfl, ⟨(fun e => nomatch e), fun hh => ((HSN.out.1 hh).elim id fun hb => absurd hb HBE.out)⟩, rfl⟩
                case measure => simp [intOf]; omega
            · have hz : ((x.n : Int) == 0) = false := by simpa using h0
              have HBE := Lib.hid (show ¬ Beh n x from fun hh => h0 hh.1)
              clear hok h0
              go_wp2_with fail
              go_quiet (fail)
              go_wp2_with fail
              go_roundw
              case rel => exact ⟨i+1, _, false, by go_num, by omega, rfl, ⟨(fun e => nomatch e), fun hh => ((HSN.out.1 hh).elim id fun hb => absurd hb HBE.out)⟩, rfl⟩
              case measure => simp [intOf]; omega
        · obtain rfl : i = q := by omega
          obtain rfl : t = true := by
            refine HIT.out.2 ?_
            rw [List.take_of_length_le (by have := HQ.out; omega)]
            exact HBAD.out
          go_wp2_with fail
          refine (awake_any _).mono ?_
          rintro e w5 ⟨rfl, hb5⟩
          have HB5 := Lib.hid ((below_drewN HB3.out k).trans (hb5.mono (below_drewN HB3.out k).size))
          clear hb5
          go_wp2_with fail
          go_ret
          exact ⟨rfl, HB5.out⟩
  · go_wp2_with fail
    refine SP.out.mono ?_
    rintro e w3 ⟨hsp, hb3⟩
    have HB3 := Lib.hid (HB2.out.trans (hb3.mono HB2.out.size))
    clear hb3 SP
    have hsp' : ∃ v o, e = .returned (.tuple #[v, o]) := by
      rcases hsp with ⟨_, v, l', rfl, _⟩ | ⟨_, rfl⟩
      · exact ⟨_, _, rfl⟩
      · exact ⟨_, _, rfl⟩
    obtain ⟨v, o, rfl⟩ := hsp'
    clear hsp
    have hk1 : (k != 0) = true := by simpa using hk0
    go_wp2_with fail
    refine (awake_any _).mono ?_
    rintro e w5 ⟨rfl, hb5⟩
    have HB5 := Lib.hid (HB3.out.trans (hb5.mono HB3.out.size))
    clear hb5
    go_wp2_with fail
    go_ret
    exact ⟨rfl, HB5.out⟩
end Go.Proofs.Ytlndiddplfoceaa
