import Derived.Test.YtlndiddplfoceaaDoorNu
import Derived.Test.YtlndiddplfoceaaDoorPN
/-! path.Split. -/
set_option linter.unusedVariables false
set_option linter.unusedSimpArgs false
namespace Go.Proofs.YtlndiddplfoceaaDoor
open Go.RowKit
attribute [local go_sem] str_toList

theorem infoS : (Tryd.prog.info? 9).map (fun i => (i.zero, i.size, i.bytes)) = some (some (.string ⟨#[]⟩), 1, 16) := by kernel_rfl
theorem strs_one (L : List (List UInt8)) : ∀ u ∈ strs L, u.oneCell' = true := by
  intro u hu; simp only [strs, List.mem_map] at hu; obtain ⟨x, _, rfl⟩ := hu; rfl
theorem iterAt_grown (w : World) (k : Nat) (s : ByteArray) (pos : Nat) : w.grownBy (w.iterAt k s pos) (some k) := ⟨rfl, rfl, rfl, by rw [Lib.iterAt_size]; exact Nat.le_refl _, fun j _ hne => Lib.iterAt_other w k j s pos (fun e => hne (by rw [e]))⟩
theorem nil_toList (s : ByteArray) (h : s.size ≠ 0) : (s.toList == []) = false := by
  rw [ByteArray.toList_eq]
  cases hl : s.data.toList with
  | nil => exact absurd (by rw [← ByteArray.size_data, ← Array.length_toList, hl]; rfl) h
  | cons a l => rfl
/-- The parts, the place of the next one, the place of the iterator. -/
theorem strs_step {w0 : World} {w : World} (base : Nat) {v : Value} {L : List (List UInt8)} (hown : w.ownsRow base 9 1 v L.length (strs L)) (hb : Below base w0 w) (x : List UInt8) (hn : L.length ≤ 4194304) (hbase : base ≤ w.heap.size) :
    ∃ v' w', (Builtin.append_ #[43, 43] 43 #[v, .slice (some ⟨w.heap.size, 0, none⟩) 1 1]).run Tryd.prog (w.alloc (.cells #[.string (str x)] 9)) = .ok v' w' ∧ w'.ownsRow base 9 1 v' (L ++ [x]).length (strs (L ++ [x])) ∧ (w.alloc (.cells #[.string (str x)] 9)).grownBy w' v.ownBlock ∧ Below base w0 w' := by
  obtain ⟨i0, hi, hz0, hz1, hz2⟩ := info_parts infoS
  obtain ⟨v', w', h1, h2, h3, h4⟩ := run_append_one (P := Tryd.prog) (w0 := w0) base 43 43 9 i0 _ 1 16 Tryd.underlying43 hi hz0 hz1 hz2 rfl (by decide) hown hb [.string (str x)] rfl (fun u hu => by simp only [List.mem_singleton] at hu; subst hu; rfl) 1 (by omega) (by omega) hbase
  exact ⟨v', w', h1, by rw [strs_snoc, List.length_append]; exact h2, h3, h4⟩
set_option maxRecDepth 100000 in
set_option maxHeartbeats 2000000 in
theorem pathSplit_any (s : ByteArray) (w : World) (hs : s.size ≤ 2097152) :
    Calls Tryd.prog 22 #[.string s] w fun e w' => (∃ A n c, e = .returned (.slice A n c) ∧ n = (splitB s.data.toList).length ∧ n ≤ c ∧ Sl 1 w' A n (strs (splitB s.data.toList))) ∧ Below w.heap.size w w' := by
  go_enter Tryd.func22, Tryd.ntmps22
  by_cases h0 : s.size = 0
  · obtain rfl : s = ⟨#[]⟩ := by
      obtain ⟨⟨l⟩⟩ := s
      cases l with
      | nil => rfl
      | cons a l => simp [ByteArray.size] at h0
    go_wp2_with fail
    go_ret
    exact ⟨⟨none, 0, 0, rfl, rfl, Nat.le_refl _, Sl.nil 1 _ none⟩, Below.refl _ _⟩
  · have hne := nil_toList s h0
    go_wp2_with fail
    clear hne
    go_loopw [3, 4] (fun v a wr => ∃ pos : Nat, pos ≤ s.size ∧ a = .int .i64 (cutN s.data.toList pos).2 ∧ wr.heap[w.heap.size]? = some (.stringIter s pos) ∧ wr.ownsRow (w.heap.size + 1) 9 1 v (cutN s.data.toList pos).1.length (strs (cutN s.data.toList pos).1) ∧ w.heap.size + 1 ≤ wr.heap.size ∧ Below w.heap.size w wr) (fun _ _ wr => s.size - wr.iterPos w.heap.size)
    case atStart => exact ⟨0, by omega, rfl, World.iter_heap w s 0, World.ownsRow_nil _ _ _ _, by simp [World.iter], (Below.refl _ _).alloc (Nat.le_refl _) _⟩
    case round =>
      obtain ⟨pos, hps, rfl, hit, hown, hsz, hb⟩ := hrel
      have HIT := Lib.hid hit
      have HOW := Lib.hid hown
      have HB := Lib.hid hb
      obtain ⟨hc1, hc2⟩ := cutN_le s.data.toList pos
      by_cases hp : pos < s.size
      · have hnx : ∀ ty, (Instr.next (.pointer (some ⟨w.heap.size, 0, none⟩)) true ty).run Tryd.prog wr = _ := fun ty => Lib.run_next_any_at (P := Tryd.prog) wr w.heap.size s pos ty hit hp
        obtain ⟨hw1, hw2, hgap⟩ := decode_gap s pos hp
        have hit2 : (wr.iterAt w.heap.size s (pos + (Utf8.decode s pos).2)).heap[w.heap.size]? = some (.stringIter s (pos + (Utf8.decode s pos).2)) := Lib.iterAt_heap wr w.heap.size s pos _ hit
        have hown2 := hown.kept (iterAt_grown wr w.heap.size s (pos + (Utf8.decode s pos).2)) (.inr fun e => by have := (hown.lt _ e).1; omega)
        have hb2 := Lib.below_iterAt hb (Nat.le_refl _) s (pos + (Utf8.decode s pos).2)
        have hsz2 : w.heap.size + 1 ≤ (wr.iterAt w.heap.size s (pos + (Utf8.decode s pos).2)).heap.size := by rw [Lib.iterAt_size]; exact hsz
        have hsl : s.data.toList.length = s.size := by rw [Array.length_toList]; rfl
        generalize hw2' : wr.iterAt w.heap.size s (pos + (Utf8.decode s pos).2) = w2 at *
        by_cases hq : (s[pos]'hp).toNat = 47
        · have hd : Utf8.decode s pos = (47, 1) := by rw [decode_ascii s pos hp (by omega), hq]
          have hl47 : s.data.toList[pos]? = some 47 := by
            rw [data_at s pos hp]; congr 1; exact UInt8.toNat_inj.1 (by rw [hq]; rfl)
          rw [hd] at hnx hit2
          simp only at hnx hit2
          have hcut := cutN_slash hl47
          obtain ⟨v5, w5, hap, hown5, hg5, hb5⟩ := strs_step (w.heap.size + 1) hown2 ((Below.refl (w.heap.size + 1) w2)) ((s.data.toList.drop (cutN s.data.toList pos).2).take (pos - (cutN s.data.toList pos).2)) (by omega) hsz2
          rw [← extract_str s _ pos hc1 hps] at hap hg5
          have hit5 : w5.heap[w.heap.size]? = some (.stringIter s (pos + 1)) := by
            rw [hb5.block _ (by omega)]; exact hit2
          have hbw5 := hb2.trans (hb5.mono (Nat.le_succ _))
          have hip : w5.iterPos w.heap.size = pos + 1 := by simp [World.iterPos, hit5]
          have hipr : wr.iterPos w.heap.size = pos := by simp [World.iterPos, HIT.out]
          have hsz5 : w.heap.size + 1 ≤ w5.heap.size := Nat.le_trans hsz2 hb5.size
          have R5 := Lib.hid (And.intro hit5 (And.intro hown5 (And.intro hsz5 hbw5)))
          have HCUT := Lib.hid hcut
          clear hit hit2 hown hown2 hb hb2 hsz2 hit5 hown5 hg5 hb5 hbw5 hcut hl47 hd hgap hw1 hw2 hw2'
          go_wp2_with (at_builtin; refine halt_in ?_)
          refine Halted.out (wpList_append_run rfl _ _ _ _ rfl rfl rfl hap ?_)
          clear hap
          go_wp2_with fail
          go_roundw
          case rel => exact ⟨pos + 1, by omega, by rw [HCUT.out]; rfl, R5.out.1, by rw [HCUT.out]; exact R5.out.2.1, R5.out.2.2.1, R5.out.2.2.2⟩
          case measure => rw [hip, hipr]; omega
        · have hcut : cutN s.data.toList (pos + (Utf8.decode s pos).2) = cutN s.data.toList pos := by
            refine cutN_skip _ _ _ fun j h1 h2 h3 => ?_
            have hj : j < s.size := by omega
            rw [data_at s j hj] at h3
            have h4 : (s[j]'hj).toNat = 47 := by rw [Option.some.inj h3]; rfl
            rcases Nat.lt_or_ge pos j with h | h
            · have := hgap j h h2
              rw [get_bang s j hj] at this; omega
            · obtain rfl : j = pos := by omega
              exact hq h4
          have hd : (((Utf8.decode s pos).1 : Int) == 47) = false := by
            rcases Nat.lt_or_ge (s[pos]'hp).toNat 128 with h | h
            · rw [decode_ascii s pos hp h]; simp; omega
            · have := (decode_high s pos hp h).1
              simp; omega
          have hip : w2.iterPos w.heap.size = pos + (Utf8.decode s pos).2 := by simp [World.iterPos, hit2]
          have hipr : wr.iterPos w.heap.size = pos := by simp [World.iterPos, HIT.out]
          have R5 := Lib.hid (And.intro hit2 (And.intro hown2 (And.intro hsz2 hb2)))
          have HCUT := Lib.hid hcut
          clear hit hit2 hown hown2 hb hb2 hsz2 hcut hgap hw2' hq
          go_wp2_with fail
          go_roundw
          case rel => exact ⟨pos + (Utf8.decode s pos).2, by omega, by rw [HCUT.out], R5.out.1, by rw [HCUT.out]; exact R5.out.2.1, R5.out.2.2.1, R5.out.2.2.2⟩
          case measure => rw [hip, hipr]; omega
      · obtain rfl : pos = s.size := by omega
        have hnx : ∀ ty, (Instr.next (.pointer (some ⟨w.heap.size, 0, none⟩)) true ty).run Tryd.prog wr = _ := fun ty => Lib.run_next_end_at (P := Tryd.prog) wr w.heap.size s s.size ty hit hp
        have hsl : s.data.toList.length = s.size := by rw [Array.length_toList]; rfl
        obtain ⟨v5, w5, hap, hown5, hg5, hb5⟩ := strs_step (w.heap.size + 1) hown (Below.refl (w.heap.size + 1) wr) ((s.data.toList.drop (cutN s.data.toList s.size).2).take (s.size - (cutN s.data.toList s.size).2)) (by omega) hsz
        rw [← extract_str s _ s.size hc1 (Nat.le_refl _)] at hap hg5
        have hfin : (cutN s.data.toList s.size).1 ++ [(s.data.toList.drop (cutN s.data.toList s.size).2).take (s.size - (cutN s.data.toList s.size).2)] = splitB s.data.toList := by
          unfold splitB
          rw [if_neg (by intro e; rw [e] at hsl; simp at hsl; omega), hsl, List.take_of_length_le (by rw [List.length_drop]; omega)]
        rw [hfin] at hown5
        obtain ⟨Af, cf, rfl, hcf, hslf, _, _⟩ := own_sl hown5
        have R5 := Lib.hid (And.intro hslf (HB.out.trans (hb5.mono (Nat.le_succ _))))
        clear hit hown hb hown5 hg5 hb5 hfin hslf
        go_wp2_with (at_builtin; refine halt_in ?_)
        refine Halted.out (wpList_append_run rfl _ _ _ _ rfl rfl rfl hap ?_)
        clear hap
        go_wp2_with fail
        go_ret
        exact ⟨⟨_, _, _, rfl, rfl, hcf, R5.out.1⟩, R5.out.2⟩
end Go.Proofs.YtlndiddplfoceaaDoor
