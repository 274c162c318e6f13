import Derived.Test.YtlndiddplfoceaaDc
/-! delta.Apply. -/
set_option linter.unusedVariables false
set_option linter.unusedSimpArgs false
namespace Go.Proofs.Ytlndiddplfoceaa
open Go.RowKit
attribute [local go_sem] max2_I max_two_I

theorem elemBy : Try.prog.elem 23 = 5 := by kernel_rfl
theorem undBy : Try.prog.underlying 23 = some (.slice (Try.prog.elem 23)) := by rw [elemBy]; exact Try.underlying23
/-- What an op makes out of a basis. -/
def makeO (bs : List UInt8) (o : OpV) : List UInt8 := if 0 < o.n then o.d else (bs.drop o.off.toNat).take o.len.toNat
def applyO (bs : List UInt8) (l : List OpV) : List UInt8 := l.flatMap (makeO bs)
theorem applyO_snoc (bs : List UInt8) (l : List OpV) (o : OpV) : applyO bs (l ++ [o]) = applyO bs l ++ makeO bs o := by simp [applyO]
theorem makeO_len {bs : List UInt8} {o : OpV} (h : OneOk bs.length o) (hd : o.d.length = o.n) : ((makeO bs o).length : Int) = lenO o := by
  unfold makeO lenO mxI
  split
  · omega
  · unfold OneOk at h
    rw [List.length_take, List.length_drop]
    split <;> omega
theorem applyO_len {bs : List UInt8} {l : List OpV} (h : ∀ o ∈ l, OneOk bs.length o) (hd : ∀ o ∈ l, o.d.length = o.n) : ((applyO bs l).length : Int) = totO l := by
  unfold applyO totO
  induction l with
  | nil => rfl
  | cons a l ih =>
    have h1 := ih (fun o ho => h o (List.mem_cons_of_mem _ ho)) (fun o ho => hd o (List.mem_cons_of_mem _ ho))
    have h2 := makeO_len (h a List.mem_cons_self) (hd a List.mem_cons_self)
    rw [List.flatMap_cons, List.length_append, List.map_cons, List.sum_cons]
    push_cast; omega
theorem totO_take_le (l : List OpV) (i : Nat) : totO (l.take i) ≤ totO l := by
  have h1 : totO l = totO (l.take i) + totO (l.drop i) := by
    unfold totO; rw [← List.sum_append, ← List.map_append, List.take_append_drop]
  have := totO_nn (l.drop i); omega
theorem info_u8 : ∃ i, Try.prog.info? 5 = some i ∧ i.zero = some (.int .u8 0) ∧ i.size = 1 ∧ i.bytes = 1 := by
  obtain ⟨j0, ji, jz0, jz1, jz2⟩ := info_parts infoB; exact ⟨j0, ji, jz0, jz1, jz2⟩
set_option maxRecDepth 100000 in
set_option maxHeartbeats 4000000 in
theorem apply_any (B A : Option Addr) (nb cb n c : Nat) (bs : List UInt8) (l : List OpV) (w : World) (hB : Sl 1 w B nb (bys bs)) (hcb : nb ≤ cb) (hnb : nb ≤ 5000) (hs : Sl 3 w A n (encsO l)) (hn : n ≤ 60)
    (hin : ∀ o ∈ l, -9223372036854775808 ≤ o.off ∧ o.off ≤ 9223372036854775807) (hle : ∀ o ∈ l, -9223372036854775808 ≤ o.len ∧ o.len ≤ 9223372036854775807) (hd : ∀ o ∈ l, Sl 1 w o.A o.n (bys o.d) ∧ o.n ≤ 140737488355328) :
    Calls Try.prog 9 #[.slice B nb cb, .slice A n c] w fun e w' =>
      (((∀ o ∈ l, OneOk nb o) ∧ totO l ≤ 65536 ∧ ∃ R m k, e = .returned (.tuple #[.slice R m k, .int .i64 0]) ∧ Sl 1 w' R m (bys (applyO bs l))) ∨
       ¬ ((∀ o ∈ l, OneOk nb o) ∧ totO l ≤ 65536) ∧ ∃ k : Int, e = .returned (.tuple #[.slice none 0 0, .int .i64 k]) ∧ (k == 0) = false) ∧ Below w.heap.size w w' := by
  have HL := Lib.hid hs.ops
  have HBL := Lib.hid (show bs.length = nb by have := hB.len; simpa [bys] using this)
  have HIN := Lib.hid hin
  have HLE := Lib.hid hle
  have HD := Lib.hid hd
  have HSB := Lib.hid hB
  have HS := Lib.hid hs
  clear hin hle hd hB hs
  go_enter Try.func9, Try.ntmps9
  go_wp2_with fail
  refine (check_any A n c l nb _ HS.out hn (by omega) (by omega) HIN.out HLE.out (fun o ho => (HD.out o ho).2)).mono ?_
  rintro e w1 ⟨⟨k, rfl, hk⟩, hb1⟩
  have HK := Lib.hid hk
  have HB1 := Lib.hid hb1
  clear hk hb1
  cases hk0 : (k == 0) with
  | false =>
    go_wp2_with fail
    go_ret2
    exact ⟨.inr ⟨fun h => by have := HK.out.2 h; rw [hk0] at this; exact Bool.noConfusion this, k, rfl, hk0⟩, HB1.out⟩
  | true =>
    have HG := Lib.hid (HK.out.1 hk0)
    obtain rfl : k = 0 := by simpa using hk0
    clear hk0
    go_wp2_with fail
    go_loopw [7, 19] (fun v a wr => ∃ (i : Nat), a = .int .i64 i ∧ i ≤ n ∧ wr.ownsRow w1.heap.size 5 1 v (applyO bs (l.take i)).length (bys (applyO bs (l.take i))) ∧ Below w1.heap.size w1 wr) (fun _ a _ => n - (intOf a).toNat)
    case atStart => exact ⟨0, rfl, by omega, World.ownsRow_nil _ _ _ _, Below.refl _ _⟩
    case round =>
      obtain ⟨i, rfl, hin, hown, hb⟩ := hrel
      have HOW := Lib.hid hown
      have HB := Lib.hid hb
      have HBW := Lib.hid (HB1.out.trans (hb.mono HB1.out.size))
      clear hown hb
      rcases Nat.lt_or_ge i n with h | h
      · obtain ⟨b, o, x, rfl, hr, c0, c1, c2⟩ := (HS.out.below HBW.out).row3 h
        have hmem : x ∈ l := List.mem_of_getElem? hr
        have hxo := HIN.out x hmem
        have hxl := HLE.out x hmem
        obtain ⟨hxs, hxn⟩ := HD.out x hmem
        have hok := HG.out.1 x hmem
        have hmk : applyO bs (l.take (i+1)) = applyO bs (l.take i) ++ makeO bs x := by rw [take_snocO hr, applyO_snoc]
        have hlen1 : ((applyO bs (l.take i)).length : Int) ≤ 65536 := by
          rw [applyO_len (fun o ho => by rw [HBL.out]; exact HG.out.1 o (List.mem_of_mem_take ho)) (fun o ho => by have := (HD.out o (List.mem_of_mem_take ho)).1.len; simpa [bys] using this)]
          have := totO_take_le l i; have := HG.out.2; omega
        have hlen2 : ((applyO bs (l.take (i+1))).length : Int) ≤ 65536 := by
          rw [applyO_len (fun o ho => by rw [HBL.out]; exact HG.out.1 o (List.mem_of_mem_take ho)) (fun o ho => by have := (HD.out o (List.mem_of_mem_take ho)).1.len; simpa [bys] using this)]
          have := totO_take_le l (i+1); have := HG.out.2; omega
        have hxd : x.d.length = x.n := by have := hxs.len; simpa [bys] using this
        have HXS := Lib.hid hxs
        have HOK := Lib.hid hok
        clear hmem hr hxs hok
        have hbk := Blk.new wr 35 (encO x)
        have hb2 : Below wr.heap.size wr (wr.alloc (.cells (encO x).toArray 35)) := (Below.refl _ _).alloc (Nat.le_refl _) _
        have HK2 := Lib.hid hbk
        have HB2 := Lib.hid hb2
        clear hbk hb2
        go_wp2_with fail
        refine (told_any x _).mono ?_
        rintro e w2 ⟨rfl, hb3⟩
        have hbk3 := HK2.out.below hb3
        have hb13 := HB2.out.trans (hb3.mono HB2.out.size)
        have HOW3 := Lib.hid (own_below HOW.out hb13)
        have HX3 := Lib.hid ((HXS.out.below HBW.out).below hb13)
        have HSB3 := Lib.hid ((HSB.out.below HBW.out).below hb13)
        have HB3 := Lib.hid (HB.out.trans (hb13.mono HB.out.size))
        have y0 : w2.cell? ⟨wr.heap.size, 0, none⟩ = some (.int .i64 x.off) := hbk3.cell 0
        have y1 : w2.cell? ⟨wr.heap.size, 1, none⟩ = some (.int .i64 x.len) := hbk3.cell 1
        have y2 : w2.cell? ⟨wr.heap.size, 2, none⟩ = some (.slice x.A x.n x.c) := hbk3.cell 2
        clear hb3 hb13 hbk3
        obtain ⟨j0, ji, jz0, jz1, jz2⟩ := info_u8
        rcases Nat.eq_zero_or_pos x.n with h0 | h0
        · have hd : decide (0 < x.n) = false := by simp [h0]
          have hg : 0 ≤ x.off ∧ 1 ≤ x.len ∧ x.off ≤ nb ∧ x.len ≤ nb - x.off := by have := HOK.out; unfold OneOk at this; omega
          have hmx : makeO bs x = (bs.drop x.off.toNat).take x.len.toNat := by unfold makeO; rw [if_neg (by omega)]
          have hsl : ∀ w : World, (Instr.slice 23 (.slice B nb cb) (some (.int .i64 x.off)) (some (.int .i64 (x.off + x.len))) none).run Try.prog w = .ok (.slice (subAt B x.off.toNat cb 1) ((x.off + x.len).toNat - x.off.toNat) (cb - x.off.toNat)) w := fun w => run_slice_sub undBy elemBy ji jz1 B nb cb x.off.toNat (x.off + x.len).toNat (by omega) (by omega) .i64 .i64 _ _ (by omega) (by omega)
          have hss := HSB3.out.sub x.off.toNat (x.off + x.len).toNat cb (by omega) (by omega) hcb
          have he : (x.off + x.len).toNat - x.off.toNat = x.len.toNat := by omega
          rw [he] at hss
          have hml : (makeO bs x).length = x.len.toNat := by rw [hmx, List.length_take, List.length_drop, HBL.out]; omega
          have hl12 : (applyO bs (l.take (i+1))).length = (applyO bs (l.take i)).length + x.len.toNat := by rw [hmk, List.length_append, hml]
          rw [← hmx] at hss
          obtain ⟨v4, w4, hap, hown4, hg4⟩ := run_append_sl (P := Try.prog) (w := w2) w1.heap.size 23 23 5 j0 _ 1 1 Try.underlying23 ji jz0 jz1 jz2 rfl (by decide) HOW3.out (c := cb - x.off.toNat) hss (bys_one _) (by omega) (by omega) HB3.out.size
          rw [← bys_append, ← hmk, ← hl12] at hown4
          have R4 := Lib.hid (And.intro hown4 (HB3.out.grown hg4 HB3.out.size (fun k hk => (HOW3.out.lt k hk).1)))
          clear hown4 hg4 hss hmk hlen1 hlen2 hml hl12 hmx ji jz0 jz1 jz2
          rw [← he] at hap
          clear he h0
          go_wp2_with (at_builtin; refine halt_in ?_)
          refine Halted.out (wpList_append_run rfl _ _ _ _ rfl rfl rfl hap ?_)
          clear hap
          go_wp2_with fail
          go_roundw
          case rel => exact ⟨i+1, by go_num, by omega, R4.out.1, R4.out.2⟩
          case measure => simp [intOf]; omega
        · have hd : decide (0 < x.n) = true := by simpa using h0
          have hmx : makeO bs x = x.d := by unfold makeO; rw [if_pos h0]
          have hl12 : (applyO bs (l.take (i+1))).length = (applyO bs (l.take i)).length + x.n := by rw [hmk, List.length_append, hmx, hxd]
          obtain ⟨v4, w4, hap, hown4, hg4⟩ := run_append_sl (P := Try.prog) (w := w2) w1.heap.size 23 23 5 j0 _ 1 1 Try.underlying23 ji jz0 jz1 jz2 rfl (by decide) HOW3.out (c := x.c) HX3.out (bys_one _) (by omega) (by omega) HB3.out.size
          rw [← bys_append, ← hmx, ← hmk, ← hl12] at hown4
          have R4 := Lib.hid (And.intro hown4 (HB3.out.grown hg4 HB3.out.size (fun k hk => (HOW3.out.lt k hk).1)))
          clear hown4 hg4 hmk hlen1 hlen2 hl12 hmx ji jz0 jz1 jz2 h0
          go_wp2_with (at_builtin; refine halt_in ?_)
          refine Halted.out (wpList_append_run rfl _ _ _ _ rfl rfl rfl hap ?_)
          clear hap
          go_wp2_with fail
          go_roundw
          case rel => exact ⟨i+1, by go_num, by omega, R4.out.1, R4.out.2⟩
          case measure => simp [intOf]; omega
      · obtain rfl : i = n := by omega
        go_wp2_with fail
        go_ret2
        have hlen := HL.out
        have h3 := HOW.out
        rw [List.take_of_length_le (by omega)] at h3
        obtain ⟨R, kk, rfl, _, hsl, _, _⟩ := own_sl h3
        exact ⟨.inl ⟨HG.out.1, HG.out.2, R, _, kk, rfl, hsl⟩, HBW.out⟩
end Go.Proofs.Ytlndiddplfoceaa
