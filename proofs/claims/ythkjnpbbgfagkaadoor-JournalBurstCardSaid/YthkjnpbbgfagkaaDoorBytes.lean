import Derived.Test.YthkjnpbbgfagkaaDoorWithout
import Derived.Test.YthkjnpbbgfagkaaDoorRPut34
set_option linter.unusedVariables false
set_option linter.unusedSimpArgs false
namespace Go.Proofs.YthkjnpbbgfagkaaDoor
open Go.RowKit Go.Maps

/-- The records that may be. -/
def mayL (l : List Rec) : List Rec := l.filter fun r => decide (May r)
/-- Their bytes. -/
def bytL (l : List Rec) : List UInt8 := (mayL l).flatMap putRec
theorem mayL_yes {l : List Rec} {r : Rec} (h : May r) : mayL (l ++ [r]) = mayL l ++ [r] := by simp [mayL, h]
theorem mayL_no {l : List Rec} {r : Rec} (h : ¬ May r) : mayL (l ++ [r]) = mayL l := by simp [mayL, h]
theorem bytL_yes {l : List Rec} {r : Rec} (h : May r) : bytL (l ++ [r]) = bytL l ++ putRec r := by simp [bytL, mayL_yes h]
theorem bytL_no {l : List Rec} {r : Rec} (h : ¬ May r) : bytL (l ++ [r]) = bytL l := by simp [bytL, mayL_no h]
theorem mayL_len (l : List Rec) : (mayL l).length ≤ l.length := List.length_filter_le _ _
theorem putRec_le {r : Rec} (h : May r) : (putRec r).length ≤ 274 := by
  have a := recB_le h
  have b := putN_le (recB r).length
  have c := sealB_len (crcOf (recB r))
  simp only [putRec, List.length_append]; omega
theorem bytL_len (l : List Rec) : (bytL l).length ≤ 274 * l.length := by
  induction l with
  | nil => simp [bytL, mayL]
  | cons r l ih =>
    by_cases h : May r
    · have : bytL (r :: l) = putRec r ++ bytL l := by simp [bytL, mayL, h]
      rw [this, List.length_append, List.length_cons]; have := putRec_le h; omega
    · have : bytL (r :: l) = bytL l := by simp [bytL, mayL, h]
      rw [this, List.length_cons]; omega
/-- Rows of different element types lie apart. -/
theorem own_apart {w : World} {b b' : Nat} {e e' : TypeId} {sz sz' : Nat} {v v' : Value} {n n' : Nat} {cs cs' : List Value} (h : w.ownsRow b e sz v n cs) (h' : w.ownsRow b' e' sz' v' n' cs') (hne : e ≠ e') : v.ownBlock = none ∨ v.ownBlock ≠ v'.ownBlock := by
  rcases h.2 with ⟨rfl, _⟩ | ⟨g, cap, cur, rfl, _, hg, _⟩
  · exact .inl rfl
  · right
    rcases h'.2 with ⟨rfl, _⟩ | ⟨g', cap', cur', rfl, _, hg', _⟩
    · simp [Value.ownBlock]
    · simp only [Value.ownBlock, ne_eq, Option.some.injEq]
      rintro rfl
      rw [hg] at hg'
      simp only [Option.some.injEq, Obj.cells.injEq] at hg'
      exact hne hg'.2.1

set_option maxRecDepth 100000 in
set_option maxHeartbeats 2000000 in
theorem bytes_any (A : Option Addr) (n c : Nat) (l : List Rec) (w : World) (hs : Sl 4 w A n (encs l)) (hn : n ≤ 40) :
    Calls Tryd.prog 23 #[.slice A n c] w fun e w' => ∃ v v', e = .returned (.tuple #[v, v']) ∧ w'.ownsRow w.heap.size 5 1 v (bytL l).length (bys (bytL l)) ∧ w'.ownsRow w.heap.size 23 4 v' (mayL l).length (encs (mayL l)) ∧ Below w.heap.size w w' := by
  have HL := Lib.hid hs.recs
  obtain ⟨i0, hi, hz0, hz1, hz2⟩ := info_parts info23
  obtain ⟨j0, ji, jz0, jz1, jz2⟩ := info_parts info5
  go_enter Tryd.func23, Tryd.ntmps23
  go_wp2_with fail
  go_loopw [4, 5, 12] (fun v v' a wr => ∃ i : Nat, a = .int .i64 i ∧ i ≤ n ∧ wr.ownsRow w.heap.size 5 1 v (bytL (l.take i)).length (bys (bytL (l.take i))) ∧ wr.ownsRow w.heap.size 23 4 v' (mayL (l.take i)).length (encs (mayL (l.take i))) ∧ Below w.heap.size w wr) (fun _ _ a _ => n - (intOf a).toNat)
  case atStart => exact ⟨0, rfl, by omega, World.ownsRow_nil _ _ _ _, World.ownsRow_nil _ _ _ _, Below.refl _ _⟩
  case round =>
    obtain ⟨i, rfl, hin, hown, hown', hb⟩ := hrel
    rcases Nat.lt_or_ge i n with h | h
    · obtain ⟨b, o, k, p, m, s, rfl, hr, c0, c1, c2, c3⟩ := (hs.below hb).row4 h
      have hti : (l.take i).length = i := by rw [List.length_take, HL.out]; omega
      have hbl := bytL_len (l.take i)
      have hml := mayL_len (l.take i)
      rw [hti] at hbl hml
      have htk := take_snoc hr
      have HT := Lib.hid htk
      have hbX := hb.alloc hb.size (.cells (encR ⟨k, p, m, s⟩).toArray 23)
      have hx0 := Box4.mk_alloc wr ⟨k, p, m, s⟩ 23
      have hownA := hown.alloc (.cells (encR ⟨k, p, m, s⟩).toArray 23)
      have hownB := hown'.alloc (.cells (encR ⟨k, p, m, s⟩).toArray 23)
      have hrow := fun k' hk => (hown.lt k' hk).2
      clear htk hr hti
      by_cases hm : May ⟨k, p, m, s⟩
      · have HM := Lib.hid hm
        have hpl := putRec_le hm
        have HY := Lib.hid (mayL_yes (l := l.take i) hm)
        have HZ := Lib.hid (bytL_yes (l := l.take i) hm)
        simp only [encR] at hbX hownA hownB
        clear hm hown hown' hb
        go_wp2_with fail
        refine (RPut34_yes ⟨k, p, m, s⟩ _ HM.out).mono ?_
        rintro e w1 ⟨v1, rfl, hown1, hb1⟩
        obtain ⟨A1, k1, rfl, hk1, hsl1, _, _⟩ := own_sl hown1
        have hownA1 := own_below hownA hb1
        have hownB1 := own_below hownB hb1
        have hbY := hbX.trans (hb1.mono hbX.size)
        have hx1 := hx0.below hb1
        obtain ⟨v2, w2, hap2, hown2, hg2⟩ := run_append_sl (P := Tryd.prog) w.heap.size 27 27 5 j0 _ 1 1 Tryd.underlying27 ji jz0 jz1 jz2 rfl (by decide) hownA1 (c := k1) hsl1 (bys_one _) (by omega) (by omega) hbY.size
        rw [← bys_append, ← List.length_append] at hown2
        have hownB2 := hownB1.kept hg2 (own_apart hownB1 hownA1 (by decide))
        have hbZ := hbY.grown hg2 hbY.size (fun k' hk' => (hownA1.lt k' hk').1)
        have hx2 : Box4 w2 wr.heap.size ⟨k, p, m, s⟩ := by
          have hne : ∀ x : Addr, x.block = wr.heap.size → some x.block ≠ u4.ownBlock := fun x hx e => by
            have := hrow _ e.symm
            omega
          exact ⟨hg2.cell hx1.c0 (hne _ rfl), hg2.cell hx1.c1 (hne _ rfl), hg2.cell hx1.c2 (hne _ rfl), hg2.cell hx1.c3 (hne _ rfl)⟩
        obtain ⟨v3, w3, hap3, hown3, hg3, hb3⟩ := run_append_one (P := Tryd.prog) (w0 := w) w.heap.size 25 25 23 i0 _ 4 48 Tryd.underlying25 hi hz0 hz1 hz2 rfl (by decide) hownB2 hbZ (encR ⟨k, p, m, s⟩) rfl (encR_one _) 1 (by omega) (by omega) hbZ.size
        rw [← encs_snoc] at hown3
        have hownA3 := (hown2.alloc (.cells (encR ⟨k, p, m, s⟩).toArray 23)).kept hg3 (own_apart hown2 hownB2 (by decide))
        have HOA := Lib.hid hownA3
        have HOB := Lib.hid hown3
        have HB3 := Lib.hid hb3
        obtain ⟨y0, y1, y2, y3⟩ := hx1
        obtain ⟨z0, z1, z2, z3⟩ := hx2
        have hsz2 : wr.heap.size < w2.heap.size := World.block_lt_of_cell? w2 _ z0
        simp only [encR] at hap3
        clear hownA3 hown3 hb3 hown2 hownB2 hbZ hg2 hg3 hownA hownB hownA1 hownB1 hown1 hbY hbX hsl1 hi hz0 hz1 hz2 ji jz0 jz1 jz2 hb1 hx0 hrow
        go_wp2_with (at_builtin; refine halt_in ?_)
        refine Halted.out (wpList_append_run rfl _ _ _ _ rfl rfl rfl hap2 ?_)
        clear hap2
        go_wp2_with (at_builtin; refine halt_in ?_)
        refine Halted.out (wpList_append_run rfl _ _ _ _ rfl rfl rfl hap3 ?_)
        clear hap3
        go_wp2_with fail
        go_roundw
        case rel => exact ⟨i+1, by go_num, by omega, by rw [HT.out, HZ.out]; exact HOA.out, by rw [HT.out, HY.out, List.length_append]; exact HOB.out, HB3.out⟩
        case measure => simp [intOf]; omega
      · have HM := Lib.hid hm
        have HY := Lib.hid (mayL_no (l := l.take i) hm)
        have HZ := Lib.hid (bytL_no (l := l.take i) hm)
        simp only [encR] at hbX hownA hownB
        clear hm hown hown' hb hrow
        go_wp2_with fail
        refine (RPut34_no ⟨k, p, m, s⟩ _ HM.out).mono ?_
        rintro e w1 ⟨rfl, hb1⟩
        have HOA := Lib.hid (own_below hownA hb1)
        have HOB := Lib.hid (own_below hownB hb1)
        have HB := Lib.hid (hbX.trans (hb1.mono hbX.size))
        clear hownA hownB hbX hb1
        go_wp2_with fail
        go_roundw
        case rel => exact ⟨i+1, by go_num, by omega, by rw [HT.out, HZ.out]; exact HOA.out, by rw [HT.out, HY.out]; exact HOB.out, HB.out⟩
        case measure => simp [intOf]; omega
    · obtain rfl : i = n := by omega
      have HO := Lib.hid hown
      have HO' := Lib.hid hown'
      have HB := Lib.hid hb
      clear hown hb hown'
      go_wp2_with fail
      go_ret2
      have hl := HL.out
      have ht : l.take i = l := List.take_of_length_le (by omega)
      exact ⟨_, _, rfl, by have h2 := HO.out; rwa [ht] at h2, by have h2 := HO'.out; rwa [ht] at h2, HB.out⟩
end Go.Proofs.YthkjnpbbgfagkaaDoor
