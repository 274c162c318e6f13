import Derived.Test.YtcagonpnjionhaaKpc
/-! What goes, by itself: each for no reason, ahead of what is above it, all of them. -/
set_option linter.unusedVariables false
set_option linter.unusedSimpArgs false
namespace Go.Proofs.Ytcagonpnjionhaa
open Go.RowKit

theorem cutN_last (l : List UInt8) : ∀ i j, (cutN l i).2 ≤ j → j < i → l[j]? ≠ some 47
  | 0, j, _, h => absurd h (Nat.not_lt_zero _)
  | i+1, j, h1, h2 => by
    rw [cutN] at h1
    split at h1
    · simp only at h1; omega
    · rename_i h3
      rcases Nat.lt_or_ge j i with h | h
      · exact cutN_last l i j h1 h
      · obtain rfl : j = i := by omega
        exact h3
theorem cutN_take (l : List UInt8) (m : Nat) : ∀ i, i ≤ m → cutN (l.take m) i = cutN l i
  | 0, _ => rfl
  | i+1, h => by
    have ih := cutN_take l m i (by omega)
    rw [cutN, cutN, ih, List.getElem?_take, if_pos (show i < m by omega)]
    have e : ((l.take m).drop (cutN l i).2).take (i - (cutN l i).2) = (l.drop (cutN l i).2).take (i - (cutN l i).2) := by
      rw [List.drop_take, List.take_take, Nat.min_eq_left (by omega)]
    rw [e]
theorem split_parent {l : List UInt8} (hl : l ≠ []) (hr : rightB l = true) : splitB l = splitB (parentB l) ++ [baseB l] := by
  rw [splitB_ne hl]
  congr 1
  obtain ⟨h1, h2, _⟩ := cutN_inv l l.length (Nat.le_refl _)
  have hle := (cutN_le l l.length).1
  rcases Nat.eq_zero_or_pos (cutN l l.length).2 with hz | hp
  · rw [h1.2 hz]
    unfold parentB lastB
    rw [hz]; rfl
  · have h47 := h2 hp
    have hlast : lastB l = (cutN l l.length).2 := rfl
    obtain ⟨g, hg⟩ : ∃ g, (cutN l l.length).2 = g + 1 := ⟨(cutN l l.length).2 - 1, by omega⟩
    rw [hg] at h47 hle hlast
    simp only [Nat.add_sub_cancel] at h47
    have hcut : cutN l l.length = cutN l (g + 1) := by
      have := cutN_skip l (g + 1) (l.length - (g + 1)) (fun j h3 _ => cutN_last l l.length j (by rw [hg]; exact h3) (by
        rename_i h4
        omega))
      rw [show g + 1 + (l.length - (g + 1)) = l.length by omega] at this
      exact this
    have hpar : parentB l = l.take g := by unfold parentB; rw [hlast]; rfl
    rw [hcut, cutN_slash h47, hpar]
    show (cutN l g).1 ++ [(l.drop (cutN l g).2).take (g - (cutN l g).2)] = splitB (l.take g)
    have hlen : (l.take g).length = g := by rw [List.length_take]; omega
    by_cases hq : l.take g = []
    · exfalso
      rw [hq] at hlen
      have hg0 : g = 0 := hlen.symm
      subst hg0
      have hmem : ([] : List UInt8) ∈ splitB l := by
        rw [splitB_ne hl, hcut, cutN_slash h47]
        simp [cutN]
      unfold rightB at hr
      rw [Bool.and_eq_true, List.all_eq_true] at hr
      have := hr.1 [] hmem
      simp [partOk] at this
    · unfold splitB
      rw [if_neg hq, hlen, cutN_take l g g (Nat.le_refl _)]
      congr 2
      rw [List.drop_take]
theorem rightB_parent {l : List UInt8} (hr : rightB l = true) : rightB (parentB l) = true := by
  by_cases hl : l = []
  · subst hl; rfl
  · have h := hr
    have hs := split_parent hl hr
    have hle := parentB_le l
    unfold rightB at h ⊢
    rw [hs] at h
    simp only [List.all_append, Bool.and_eq_true, decide_eq_true_eq, List.length_append, List.length_singleton] at h ⊢
    exact ⟨h.1.1, by omega, by omega⟩
theorem up_pfx : ∀ (a : Nat) (p : List UInt8), rightB p = true → ∃ Z, splitB p = splitB (upN a p) ++ Z
  | 0, p, _ => ⟨[], by rw [List.append_nil]; rfl⟩
  | a+1, p, h => by
    by_cases hp : p = []
    · subst hp
      obtain ⟨Z, hZ⟩ := up_pfx a (parentB []) (rightB_parent h)
      exact ⟨Z, hZ⟩
    · obtain ⟨Z, hZ⟩ := up_pfx a (parentB p) (rightB_parent h)
      exact ⟨Z ++ [baseB p], by rw [split_parent hp h, hZ, List.append_assoc]; rfl⟩
theorem pfxB_iff {X Y : List (List UInt8)} : pfxB X Y = true ↔ ∃ Z, X = Y ++ Z := by
  unfold pfxB
  rw [decide_eq_true_eq]
  constructor
  · intro h; exact ⟨X.drop Y.length, by conv => lhs; rw [← List.take_append_drop Y.length X, h]⟩
  · rintro ⟨Z, rfl⟩; simp
theorem right_of_ok {x : En} (h : okE x = true) : rightB x.path.data.toList = true := by
  unfold okE at h
  rw [Bool.and_eq_true] at h
  exact h.1
theorem right_of_check {L : List En} (h : checkE L = true) {i : Nat} {x : En} (hx : L[i]? = some x) : rightB x.path.data.toList = true := right_of_ok (okE_of_check h hx)
/-- What is below a number lies under its path. -/
theorem belowI_pfx {D : List En} (hc : checkE D = true) {k i m : Nat} {x : En} (hx : D[i]? = some x) (h : m ∈ belowI D k i) : ∃ y Z, D[m]? = some y ∧ splitB y.path.data.toList = splitB x.path.data.toList ++ Z := by
  obtain ⟨a, y, hy, ha⟩ := belowI_up hx h
  obtain ⟨Z, hZ⟩ := up_pfx a _ (right_of_check hc hy)
  exact ⟨y, Z, hy, by rw [hZ, ha]⟩
def NotUp (D : List En) (m m' : Nat) : Prop := ∀ x y, D[m]? = some x → D[m']? = some y → pfxB (splitB y.path.data.toList) (splitB x.path.data.toList) = false
theorem sib_len {D : List En} (hc : checkE D = true) {i : Nat} {s : List UInt8} (hi : i ∈ kdT D D.length s) : ∃ x, D[i]? = some x ∧ (splitB x.path.data.toList).length = (splitB s).length + 1 := by
  obtain ⟨_, x, hx, px⟩ := kdT_mem hi
  refine ⟨x, hx, ?_⟩
  rw [split_parent (path_of_check hc x (List.mem_of_getElem? hx)).2 (right_of_check hc hx), px]
  simp
theorem flat_pair {D : List En} (hc : checkE D = true) (k : Nat) (hk : ∀ i, i < D.length → (belowI D k i).Pairwise (NotUp D)) (s : List UInt8) : ((kdT D D.length s).flatMap (belowI D k)).Pairwise (NotUp D) := by
  have hn : (kdT D D.length s).Nodup := List.Nodup.sublist List.filter_sublist List.nodup_range
  unfold List.Nodup at hn
  rw [List.pairwise_flatMap]
  refine ⟨fun i hi => hk i (kdT_mem hi).1, List.Pairwise.imp_of_mem ?_ hn⟩
  intro i j hi hj hne m hm m' hm' x y hx hy
  cases hp : pfxB (splitB y.path.data.toList) (splitB x.path.data.toList) with
  | false => rfl
  | true =>
    exfalso
    obtain ⟨Z, hZ⟩ := pfxB_iff.1 hp
    obtain ⟨xi, hxi, hli⟩ := sib_len hc hi
    obtain ⟨xj, hxj, hlj⟩ := sib_len hc hj
    obtain ⟨x', Zi, hx', hZi⟩ := belowI_pfx hc hxi hm
    obtain ⟨y', Zj, hy', hZj⟩ := belowI_pfx hc hxj hm'
    rw [hx] at hx'; cases hx'
    rw [hy] at hy'; cases hy'
    have e : splitB xi.path.data.toList ++ (Zi ++ Z) = splitB xj.path.data.toList ++ Zj := by rw [← List.append_assoc, ← hZi, ← hZ, hZj]
    have := (List.append_inj e (by rw [hli, hlj])).1
    exact hne (path_inj hc hxi hxj (splitB_inj this))
theorem belowI_pair {D : List En} (hc : checkE D = true) : ∀ (k i : Nat), (belowI D k i).Pairwise (NotUp D)
  | 0, i => List.Pairwise.nil
  | k+1, i => by
    rw [belowI]
    cases hx : D[i]? with
    | none => exact List.Pairwise.nil
    | some x =>
      show ((kdT D D.length x.path.data.toList).flatMap (belowI D k) ++ [i]).Pairwise (NotUp D)
      rw [List.pairwise_append]
      refine ⟨flat_pair hc k (fun j _ => belowI_pair hc k j) _, List.pairwise_singleton _ _, ?_⟩
      intro m hm m' hm'
      rw [List.mem_singleton] at hm'
      subst hm'
      intro y z hy hz
      rw [hx] at hz; cases hz
      cases hp : pfxB (splitB x.path.data.toList) (splitB y.path.data.toList) with
      | false => rfl
      | true =>
        exfalso
        obtain ⟨Z, hZ⟩ := pfxB_iff.1 hp
        obtain ⟨j, hj, hmj⟩ := List.mem_flatMap.1 hm
        obtain ⟨xj, hxj, hlj⟩ := sib_len hc hj
        obtain ⟨y', Zj, hy', hZj⟩ := belowI_pfx hc hxj hmj
        rw [hy] at hy'; cases hy'
        have h1 := congrArg List.length hZ
        have h2 := congrArg List.length hZj
        rw [List.length_append] at h1 h2
        omega
theorem goneI_pair {D : List En} (hc : checkE D = true) : (goneI D).Pairwise (NotUp D) := flat_pair hc 201 (fun j _ => belowI_pair hc 201 j) []
/-- A child of one that is visited is visited. -/
theorem belowI_child {D : List En} (hc : checkE D = true) {m : Nat} {y : En} (hy : D[m]? = some y) : ∀ {k i j : Nat} {x z : En}, D[i]? = some x → D[j]? = some z → 201 ≤ k + x.path.size → j ∈ belowI D k i → parentB y.path.data.toList = z.path.data.toList → m ∈ belowI D k i
  | 0, i, j, x, z, _, _, _, h, _ => by cases h
  | k+1, i, j, x, z, hx, hz, hk, h, hp => by
    rw [belowI, hx] at h ⊢
    rcases List.mem_append.1 h with h | h
    · obtain ⟨j', hj', hm⟩ := List.mem_flatMap.1 h
      obtain ⟨_, x', hx', px'⟩ := kdT_mem hj'
      have h1 := parentB_lt (path_of_check hc x' (List.mem_of_getElem? hx')).2
      rw [px', Array.length_toList, Array.length_toList] at h1
      have h2 : x.path.size < x'.path.size := h1
      exact List.mem_append_left _ (List.mem_flatMap.2 ⟨j', hj', belowI_child hc hy hx' hz (by omega) hm hp⟩)
    · rw [List.mem_singleton] at h
      subst h
      rw [hx] at hz; cases hz
      have h1 := parentB_lt (path_of_check hc y (List.mem_of_getElem? hy)).2
      rw [hp, Array.length_toList, Array.length_toList] at h1
      have h2 : x.path.size < y.path.size := h1
      have h3 := (path_of_check hc y (List.mem_of_getElem? hy)).1
      refine List.mem_append_left _ (List.mem_flatMap.2 ⟨m, ?_, ?_⟩)
      · unfold kdT
        rw [List.mem_filter, List.mem_range]
        exact ⟨(List.getElem?_eq_some_iff.1 hy).1, by simp [parAt, hy, hp]⟩
      · obtain ⟨k', rfl⟩ : ∃ k', k = k' + 1 := ⟨k - 1, by omega⟩
        rw [belowI, hy]
        exact List.mem_append_right _ (List.mem_singleton.2 rfl)
theorem goneI_all {D : List En} (hc : checkE D = true) : ∀ (n m : Nat) (y : En), m < n → D[m]? = some y → m ∈ goneI D
  | 0, m, y, h, _ => absurd h (Nat.not_lt_zero _)
  | n+1, m, y, h, hy => by
    have hml := (List.getElem?_eq_some_iff.1 hy).1
    have hst := ChkTo.of_check hc m hml
    rw [stepOk_at hy] at hst
    simp only [Bool.and_eq_true] at hst
    have hup := hst.2.2.1
    unfold upOk at hup
    rw [Bool.or_eq_true, decide_eq_true_eq] at hup
    rcases hup with hp | hp
    · refine List.mem_flatMap.2 ⟨m, ?_, ?_⟩
      · unfold kdT
        rw [List.mem_filter, List.mem_range]
        exact ⟨hml, by simp [parAt, hy, hp]⟩
      · rw [belowI, hy]
        exact List.mem_append_right _ (List.mem_singleton.2 rfl)
    · rw [List.any_eq_true] at hp
      obtain ⟨z, hz, hzd⟩ := hp
      unfold isDir at hzd
      simp only [Bool.and_eq_true, decide_eq_true_eq] at hzd
      obtain ⟨j, hj⟩ := List.mem_iff_getElem?.1 hz
      have hjm : j < m := by have := (List.getElem?_eq_some_iff.1 hj).1; rw [List.length_take] at this; omega
      have hj2 : D[j]? = some z := by rw [List.getElem?_take, if_pos hjm] at hj; exact hj
      have hjg := goneI_all hc n j z (by omega) hj2
      obtain ⟨i, hi, hji⟩ := List.mem_flatMap.1 hjg
      obtain ⟨_, x, hx, _⟩ := kdT_mem hi
      exact List.mem_flatMap.2 ⟨i, hi, belowI_child hc hy hx hj2 (by omega) hji hzd.2.symm⟩
/-- What goes is all of those that go. -/
theorem tellI_mem {D : List En} {ws : List Int} {m : Nat} {p : ByteArray} (h : p ∈ tellI D ws m) : ∃ y, D[m]? = some y ∧ y.path = p ∧ ws[m]? = some 0 := by
  unfold tellI at h
  cases hd : D[m]? with
  | none => rw [hd] at h; cases h
  | some y =>
    rw [hd] at h
    simp only at h
    split at h
    · rename_i hw; rw [List.mem_singleton] at h; exact ⟨y, rfl, h.symm, hw⟩
    · cases h
theorem flat_count (ws : List Int) (D : List En) : ∀ (l : List Nat), (∀ m ∈ l, m < D.length) → (l.flatMap (tellI D ws)).length = l.countP (fun m => decide (ws[m]? = some 0))
  | [], _ => rfl
  | a :: l, h => by
    rw [List.flatMap_cons, List.length_append, flat_count ws D l (fun m hm => h m (List.mem_cons_of_mem _ hm)), List.countP_cons]
    have ha := h a (List.mem_cons_self)
    unfold tellI
    rw [List.getElem?_eq_getElem ha]
    simp only
    by_cases hw : ws[a]? = some 0
    · rw [if_pos hw]; simp [hw]; omega
    · rw [if_neg hw]; simp [hw]
theorem gone_count {S D : List En} {R : List Ru} (hc : checkE D = true) : (goneU S D R).length = (List.range D.length).countP (fun m => decide ((whyU S D R)[m]? = some 0)) := by
  rw [goneU_I, flat_count _ _ _ (fun m hm => goneI_lt hm)]
  refine List.Perm.countP_eq _ ?_
  rw [List.perm_ext_iff_of_nodup (goneI_nodup hc) List.nodup_range]
  intro m
  rw [List.mem_range]
  exact ⟨goneI_lt, fun h => goneI_all hc (m + 1) m _ (Nat.lt_succ_self _) (List.getElem?_eq_getElem h)⟩
end Go.Proofs.Ytcagonpnjionhaa
