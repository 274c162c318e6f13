import Derived.Test.YtlndiddplfoceaaDl
/-! delta.Check. -/
set_option linter.unusedVariables false
set_option linter.unusedSimpArgs false
namespace Go.Proofs.Ytlndiddplfoceaa
open Go.RowKit
attribute [local go_sem] max2_I max_two_I

def totO (l : List OpV) : Int := (l.map lenO).sum
theorem lenO_nn (o : OpV) : 0 ≤ lenO o := by unfold lenO mxI; split <;> (try split) <;> omega
theorem totO_snoc (l : List OpV) (o : OpV) : totO (l ++ [o]) = totO l + lenO o := by simp [totO]
theorem totO_nn (l : List OpV) : 0 ≤ totO l := by
  unfold totO; induction l with
  | nil => exact Int.le_refl 0
  | cons a l ih => have := lenO_nn a; simp only [List.map_cons, List.sum_cons]; omega
theorem lenO_le {base : Int} {o : OpV} (hb : base ≤ 131072) (h : OneOk base o) (hn : o.n ≤ 140737488355328) : lenO o ≤ 140737488355328 := by
  unfold OneOk at h; unfold lenO mxI; split <;> (try split) <;> omega
theorem totO_le {base : Int} (hb : base ≤ 131072) (l : List OpV) (h : ∀ o ∈ l, OneOk base o) (hn : ∀ o ∈ l, o.n ≤ 140737488355328) : totO l ≤ l.length * 140737488355328 := by
  unfold totO; induction l with
  | nil => simp
  | cons a l ih =>
    have h1 := ih (fun o ho => h o (List.mem_cons_of_mem _ ho)) (fun o ho => hn o (List.mem_cons_of_mem _ ho))
    have h2 := lenO_le hb (h a List.mem_cons_self) (hn a List.mem_cons_self)
    simp only [List.map_cons, List.sum_cons, List.length_cons]; push_cast; omega
set_option maxRecDepth 100000 in
set_option maxHeartbeats 2000000 in
theorem check_any (A : Option Addr) (n c : Nat) (l : List OpV) (base : Int) (w : World) (hs : Sl 3 w A n (encsO l)) (hn : n ≤ 60) (hb0 : 0 ≤ base) (hb1 : base ≤ 131072)
    (hin : ∀ o ∈ l, -9223372036854775808 ≤ o.off ∧ o.off ≤ 9223372036854775807) (hle : ∀ o ∈ l, -9223372036854775808 ≤ o.len ∧ o.len ≤ 9223372036854775807) (hd : ∀ o ∈ l, o.n ≤ 140737488355328) :
    Calls Try.prog 13 #[.slice A n c, .int .i64 base] w fun e w' => (∃ k : Int, e = .returned (.int .i64 k) ∧ ((k == 0) = true ↔ (∀ o ∈ l, OneOk base o) ∧ totO l ≤ 65536)) ∧ Below w.heap.size w w' := by
  have HL := Lib.hid hs.ops
  have HIN := Lib.hid hin
  have HLE := Lib.hid hle
  have HD := Lib.hid hd
  clear hin hle hd
  go_enter Try.func13, Try.ntmps13
  go_wp2_with fail
  go_loopw [5, 17] (fun s a wr => ∃ (i : Nat) (t : Int), a = .int .i64 i ∧ i ≤ n ∧ s = .int .i64 t ∧ t = totO (l.take i) ∧ (∀ o ∈ l.take i, OneOk base o) ∧ Below w.heap.size w wr) (fun _ a _ => n - (intOf a).toNat)
  case atStart => exact ⟨0, 0, rfl, by omega, rfl, rfl, by simp, Below.refl _ _⟩
  case round =>
    obtain ⟨i, t, rfl, hin, rfl, ht, hall, hb⟩ := hrel
    have HALL := Lib.hid hall
    have HB := Lib.hid hb
    have HT := Lib.hid ht
    have ht0 : 0 ≤ t := by rw [ht]; exact totO_nn _
    have ht1 : t ≤ 8444249301319680 := by
      have h1 := totO_le hb1 (l.take i) hall (fun o ho => HD.out o (List.mem_of_mem_take ho))
      have h2 : (l.take i).length ≤ 60 := by rw [List.length_take]; omega
      rw [ht]; omega
    clear hall hb ht
    rcases Nat.lt_or_ge i n with h | h
    · obtain ⟨b, o, x, rfl, hr, c0, c1, c2⟩ := (hs.below HB.out).row3 h
      have hmem : x ∈ l := List.mem_of_getElem? hr
      have hxo := HIN.out x hmem
      have hxl := HLE.out x hmem
      have hxn := HD.out x hmem
      have HM := Lib.hid hmem
      have HR := Lib.hid hr
      clear hmem hr
      have hbk := Blk.new wr 35 (encO x)
      have hb2 : Below wr.heap.size wr (wr.alloc (.cells (encO x).toArray 35)) := (Below.refl _ _).alloc (Nat.le_refl _) _
      have HK := Lib.hid hbk
      have HB2 := Lib.hid hb2
      clear hbk hb2
      go_wp2_with fail
      refine (one_any x base _ hxl hxo hb0 hb1).mono ?_
      rintro e w1 ⟨⟨k, rfl, hk⟩, hb3⟩
      have HK1 := Lib.hid hk
      have hbk1 := HK.out.below hb3
      have hb13 := HB2.out.trans (hb3.mono HB2.out.size)
      have HB3 := Lib.hid (HB.out.trans (hb13.mono HB.out.size))
      have y0 : w1.cell? ⟨wr.heap.size, 0, none⟩ = some (.int .i64 x.off) := hbk1.cell 0
      have y1 : w1.cell? ⟨wr.heap.size, 1, none⟩ = some (.int .i64 x.len) := hbk1.cell 1
      have y2 : w1.cell? ⟨wr.heap.size, 2, none⟩ = some (.slice x.A x.n x.c) := hbk1.cell 2
      clear hk hb3 hb13 hbk1
      cases hk0 : (k == 0) with
      | false =>
        go_wp2_with fail
        go_ret
        exact ⟨⟨k, rfl, by rw [hk0]; exact ⟨(fun e => nomatch e), fun hg => absurd (HK1.out.2 (hg.1 x HM.out)) (by rw [hk0]; simp)⟩⟩, HB3.out⟩
      | true =>
        have HOK := Lib.hid (HK1.out.1 hk0)
        go_wp2_with fail
        refine (length_any x _ hxl).mono ?_
        rintro e w2 ⟨rfl, hb4⟩
        have HB4 := Lib.hid (HB3.out.trans (hb4.mono HB3.out.size))
        have hq0 := lenO_nn x
        have hq1 := lenO_le hb1 HOK.out hxn
        clear hb4
        go_wp2_with fail
        go_roundw
        case rel =>
          refine ⟨i+1, _, by go_num, by omega, rfl, ?_, fun y hy => (mem_take_snoc HR.out hy).elim (HALL.out y) (fun e => e ▸ HOK.out), HB4.out⟩
          rw [take_snocO HR.out, totO_snoc, ← HT.out]
        case measure => simp [intOf]; omega
    · obtain rfl : i = n := by omega
      have hlen := HL.out
      have h3 := HALL.out
      have h4 := HT.out
      rw [List.take_of_length_le (by omega)] at h3 h4
      have H3 := Lib.hid h3
      have H4 := Lib.hid h4
      clear h3 h4 hlen
      by_cases hq : 65536 < t
      · have hd : decide (65536 < t) = true := by simpa using hq
        go_wp2_with fail
        go_ret
        exact ⟨⟨7, rfl, ⟨(fun e => nomatch e), fun hg => by have := H4.out; have := hg.2; omega⟩⟩, HB.out⟩
      · have hd : decide (65536 < t) = false := by simpa using hq
        go_wp2_with fail
        go_ret
        exact ⟨⟨0, rfl, ⟨fun _ => ⟨H3.out, by have := H4.out; omega⟩, fun _ => rfl⟩⟩, HB.out⟩
end Go.Proofs.Ytlndiddplfoceaa
