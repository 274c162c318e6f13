import Derived.Test.YtlndiddplfoceaaDoorNs
/-! The document's Split. -/
set_option linter.unusedVariables false
set_option linter.unusedSimpArgs false
namespace Go.Proofs.YtlndiddplfoceaaDoor
open Go.RowKit
attribute [local go_sem] str_toList

set_option maxRecDepth 100000 in
set_option maxHeartbeats 2000000 in
theorem refSplit_any (s : ByteArray) (w : World) (hs : s.size ≤ 2097152) :
    Calls Tryd.prog 24 #[.string s] w fun e w' => (∃ A n c, e = .returned (.slice A n c) ∧ n = (splitB s.data.toList).length ∧ n ≤ c ∧ Sl 1 w' A n (strs (splitB s.data.toList))) ∧ Below w.heap.size w w' := by
  go_enter Tryd.func24, Tryd.ntmps24
  by_cases h0 : s.size = 0
  · obtain rfl : s = ⟨#[]⟩ := by
      obtain ⟨⟨l⟩⟩ := s
      cases l with
      | nil => rfl
      | cons a l => simp [ByteArray.size] at h0
    go_wp2_with fail
    go_ret
    exact ⟨⟨none, 0, 0, rfl, rfl, Nat.le_refl _, Sl.nil 1 _ none⟩, Below.refl _ _⟩
  · have hne := nil_toList s h0
    have hsl : s.data.toList.length = s.size := by rw [Array.length_toList]; rfl
    go_wp2_with fail
    clear hne
    go_loopw [3, 4, 5] (fun v a b wr => ∃ (i f : Nat) (L : List (List UInt8)), b = .int .i64 i ∧ a = .int .i64 f ∧ (i ≤ s.size ∧ L = (cutN s.data.toList i).1 ∧ f = (cutN s.data.toList i).2 ∨ i = s.size + 1 ∧ f = s.size + 1 ∧ L = splitB s.data.toList) ∧ wr.ownsRow w.heap.size 9 1 v L.length (strs L) ∧ Below w.heap.size w wr) (fun _ _ b _ => s.size + 1 - (intOf b).toNat)
    case atStart => exact ⟨0, 0, [], rfl, rfl, .inl ⟨by omega, rfl, rfl⟩, World.ownsRow_nil _ _ _ _, Below.refl _ _⟩
    case round =>
      obtain ⟨i, f, L, rfl, rfl, hcase, hown, hb⟩ := hrel
      rcases hcase with ⟨his, hL, hf⟩ | ⟨hi, hf, hL⟩
      · obtain ⟨hc1, hc2⟩ := cutN_le s.data.toList i
        rw [← hf] at hc1
        rw [← hL] at hc2
        obtain ⟨v5, w5, hap, hown5, hg5, hb5⟩ := strs_step w.heap.size hown hb ((s.data.toList.drop f).take (i - f)) (by omega) hb.size
        rw [← extract_str s f i hc1 his] at hap
        rcases Nat.lt_or_ge i s.size with hp | hp
        · by_cases hq : (s[i]'hp).toNat = 47
          · have hl47 : s.data.toList[i]? = some 47 := by
              rw [data_at s i hp]; congr 1; exact UInt8.toNat_inj.1 (by rw [hq]; rfl)
            have hcut := cutN_slash hl47
            rw [← hf, ← hL] at hcut
            have hq2 : (((s[i]'hp).toNat : Int) == 47) = true := by simp [hq]
            have R5 := Lib.hid (And.intro hown5 hb5)
            have HCUT := Lib.hid hcut
            clear hown hb hown5 hg5 hb5 hcut hl47 hL hf hq hc2
            go_wp2_with (at_builtin; refine halt_in ?_)
            refine Halted.out (wpList_append_run rfl _ _ _ _ rfl rfl rfl hap ?_)
            clear hap
            go_wp2_with fail
            go_roundw
            case rel => exact ⟨i + 1, i + 1, _, by go_num, by go_num, .inl ⟨by omega, by rw [HCUT.out], by rw [HCUT.out]⟩, R5.out.1, R5.out.2⟩
            case measure => simp [intOf]; omega
          · have hcut : cutN s.data.toList (i + 1) = cutN s.data.toList i := cutN_other (by
              rw [data_at s i hp]; intro e; exact hq (by rw [Option.some.inj e]; rfl))
            have hq2 : (((s[i]'hp).toNat : Int) == 47) = false := by simp; omega
            have R5 := Lib.hid (And.intro hown hb)
            have HC := Lib.hid (show L = (cutN s.data.toList (i + 1)).1 ∧ f = (cutN s.data.toList (i + 1)).2 from by rw [hcut]; exact ⟨hL, hf⟩)
            clear hown hb hown5 hg5 hb5 hcut hL hf hq hc2 hap
            go_wp2_with fail
            go_roundw
            case rel => exact ⟨i + 1, f, L, by go_num, rfl, .inl ⟨by omega, HC.out.1, HC.out.2⟩, R5.out.1, R5.out.2⟩
            case measure => simp [intOf]; omega
        · obtain rfl : i = s.size := by omega
          have hfin : L ++ [(s.data.toList.drop f).take (s.size - f)] = splitB s.data.toList := by
            unfold splitB
            rw [if_neg (by intro e; rw [e] at hsl; simp at hsl; omega), hsl, hL, hf, List.take_of_length_le (by rw [List.length_drop]; omega)]
          rw [hfin] at hown5
          have R5 := Lib.hid (And.intro hown5 hb5)
          clear hown hb hown5 hg5 hb5 hL hf hc2 hfin
          go_wp2_with (at_builtin; refine halt_in ?_)
          refine Halted.out (wpList_append_run rfl _ _ _ _ rfl rfl rfl hap ?_)
          clear hap
          go_wp2_with fail
          go_roundw
          case rel => exact ⟨s.size + 1, s.size + 1, _, by go_num, by go_num, .inr ⟨rfl, rfl, rfl⟩, R5.out.1, R5.out.2⟩
          case measure => simp [intOf]
      · subst hi hf hL
        obtain ⟨Af, cf, rfl, hcf, hslf, _, _⟩ := own_sl hown
        have R5 := Lib.hid (And.intro hslf hb)
        clear hown hb hslf
        go_wp2_with fail
        go_ret
        exact ⟨⟨_, _, _, rfl, rfl, hcf, R5.out.1⟩, R5.out.2⟩
end Go.Proofs.YtlndiddplfoceaaDoor
