import Derived.Test.YtcagonpnjionhaaGwc
/-! The order of going: the document's insertion gives the program's walk from below. -/
set_option linter.unusedVariables false
set_option linter.unusedSimpArgs false
namespace Go.Proofs.Ytcagonpnjionhaa
open Go.RowKit

def underS (p q : ByteArray) : Bool := pfxB (splitB p.data.toList) (splitB q.data.toList)
def aheadB (p q : ByteArray) : Bool := underS p q || (!underS q p && lessS p q)
def aheadAt (p : ByteArray) (out : List ByteArray) (k : Nat) : Bool := match out[k]? with
  | some e => aheadB p e
  | none => false
theorem aheadAt_of {p : ByteArray} {out : List ByteArray} {k : Nat} {e : ByteArray} (h : out[k]? = some e) : aheadAt p out k = aheadB p e := by unfold aheadAt; rw [h]
def cutO (p : ByteArray) (out : List ByteArray) : Nat → Nat
  | 0 => 0
  | k+1 => if aheadAt p out k = true then cutO p out k else k + 1
def insO (p : ByteArray) (out : List ByteArray) : List ByteArray := out.take (cutO p out out.length) ++ p :: out.drop (cutO p out out.length)
def ordO (l : List ByteArray) : List ByteArray := l.foldl (fun out p => insO p out) []
theorem cutO_le (p : ByteArray) (out : List ByteArray) : ∀ k, cutO p out k ≤ k
  | 0 => Nat.le_refl _
  | k+1 => by
    rw [cutO]
    split
    · exact Nat.le_succ_of_le (cutO_le p out k)
    · exact Nat.le_refl _
theorem cutO_all (p : ByteArray) (out : List ByteArray) : ∀ k, ∀ j e, cutO p out k ≤ j → j < k → out[j]? = some e → aheadB p e = true
  | 0, j, e, _, h, _ => absurd h (Nat.not_lt_zero _)
  | k+1, j, e, h1, h2, he => by
    rw [cutO] at h1
    split at h1
    · rename_i hk
      rcases Nat.lt_or_ge j k with c | c
      · exact cutO_all p out k j e h1 c he
      · obtain rfl : j = k := by omega
        rw [aheadAt_of he] at hk
        exact hk
    · omega
theorem cutO_stop (p : ByteArray) (out : List ByteArray) : ∀ k c e, cutO p out k = c + 1 → out[c]? = some e → aheadB p e = false
  | 0, c, e, h, _ => by simp [cutO] at h
  | k+1, c, e, h, he => by
    rw [cutO] at h
    split at h
    · exact cutO_stop p out k c e h he
    · rename_i hk
      obtain rfl : k = c := by omega
      rw [aheadAt_of he, Bool.not_eq_true] at hk
      exact hk
theorem underS_iff {p q : ByteArray} : underS p q = true ↔ ∃ Z, splitB p.data.toList = splitB q.data.toList ++ Z := pfxB_iff
theorem underS_trans {p q r : ByteArray} (h : underS p q = true) (k : underS q r = true) : underS p r = true := by
  obtain ⟨Z, hZ⟩ := underS_iff.1 h
  obtain ⟨Y, hY⟩ := underS_iff.1 k
  exact underS_iff.2 ⟨Y ++ Z, by rw [hZ, hY, List.append_assoc]⟩
theorem path_eq {p q : ByteArray} (h : splitB p.data.toList = splitB q.data.toList) : p = q := ByteArray.ext (Array.toList_inj.1 (splitB_inj h))
theorem ahead_anti {p q : ByteArray} (h : aheadB p q = true) (k : aheadB q p = true) : p = q := by
  unfold aheadB at h k
  rw [Bool.or_eq_true, Bool.and_eq_true, Bool.not_eq_true'] at h k
  rcases h with h | ⟨h1, h2⟩
  · rcases k with k | ⟨k1, k2⟩
    · obtain ⟨Z, hZ⟩ := underS_iff.1 h
      obtain ⟨Y, hY⟩ := underS_iff.1 k
      rw [hY, List.append_assoc] at hZ
      have h3 := congrArg List.length hZ
      rw [List.length_append, List.length_append] at h3
      have : Y = [] := List.eq_nil_of_length_eq_zero (by omega)
      rw [this, List.append_nil] at hY
      exact (path_eq hY).symm
    · rw [h] at k1; cases k1
  · rcases k with k | ⟨k1, k2⟩
    · rw [k] at h1; cases h1
    · unfold lessS at h2 k2
      rw [lessP_asymm h2] at k2; cases k2
theorem ins_pair {out : List ByteArray} {p : ByteArray} (ho : out.Pairwise (fun a b => aheadB a b = true)) (hp : ∀ e ∈ out, lessS e p = true) : (insO p out).Pairwise (fun a b => aheadB a b = true) := by
  have hpe : ∀ e ∈ out, aheadB p e = underS p e := fun e he => by
    have h1 := hp e he
    unfold aheadB
    have : lessS p e = false := by unfold lessS at h1 ⊢; exact lessP_asymm h1
    rw [this]; simp
  unfold insO
  have hc := cutO_le p out out.length
  have hall := cutO_all p out out.length
  have hstop := cutO_stop p out out.length
  generalize cutO p out out.length = c at *
  have ho' := ho
  rw [← List.take_append_drop c out, List.pairwise_append] at ho'
  obtain ⟨h1, h2, h3⟩ := ho'
  rw [List.pairwise_append, List.pairwise_cons]
  refine ⟨h1, ⟨fun b hb => ?_, h2⟩, fun a ha b hb => ?_⟩
  · obtain ⟨j, hj⟩ := List.mem_iff_getElem?.1 hb
    rw [List.getElem?_drop] at hj
    exact hall (c + j) b (by omega) (List.getElem?_eq_some_iff.1 hj).1 hj
  · rcases List.mem_cons.1 hb with rfl | hb
    · have hao : a ∈ out := List.mem_of_mem_take ha
      obtain ⟨j, hj⟩ := List.mem_iff_getElem?.1 ha
      have hjc : j < c := by have := (List.getElem?_eq_some_iff.1 hj).1; rw [List.length_take] at this; omega
      have hj2 : out[j]? = some a := by rw [List.getElem?_take, if_pos hjc] at hj; exact hj
      obtain ⟨d, rfl⟩ : ∃ d, c = d + 1 := ⟨c - 1, by omega⟩
      have hd : out[d]? = some (out[d]'(by omega)) := List.getElem?_eq_getElem (by omega)
      have hs := hstop d _ rfl hd
      rw [hpe _ (List.mem_of_getElem? hd)] at hs
      have hna : underS b a = false := by
        rcases Nat.lt_or_ge j d with k | k
        · have hR := List.pairwise_iff_getElem.1 ho j d (List.getElem?_eq_some_iff.1 hj2).1 (by omega) k
          rw [(List.getElem?_eq_some_iff.1 hj2).2] at hR
          cases hu : underS b a with
          | false => rfl
          | true =>
            exfalso
            unfold aheadB at hR
            rw [Bool.or_eq_true, Bool.and_eq_true, Bool.not_eq_true'] at hR
            rcases hR with hR | ⟨hR1, hR2⟩
            · have := underS_trans hu hR
              rw [this] at hs; cases hs
            · obtain ⟨Z, hZ⟩ := underS_iff.1 hu
              have hl := hp _ (List.mem_of_getElem? hd)
              unfold lessS at hl hR2
              rw [hZ] at hl
              obtain ⟨Y, hY⟩ := lessP_between _ hR2 hl
              have : underS (out[d]'(by omega)) a = true := underS_iff.2 ⟨Y, hY⟩
              rw [this] at hR1; cases hR1
        · obtain rfl : j = d := by omega
          rw [hj2] at hd
          cases hd
          exact hs
      unfold aheadB
      rw [hna, hp a hao]; simp
    · exact h3 a ha b hb
theorem ins_perm (p : ByteArray) (out : List ByteArray) : (insO p out).Perm (p :: out) := by
  unfold insO
  have := List.perm_middle (a := p) (l₁ := out.take (cutO p out out.length)) (l₂ := out.drop (cutO p out out.length))
  rwa [List.take_append_drop] at this
theorem ord_all : ∀ (l out : List ByteArray), out.Pairwise (fun a b => aheadB a b = true) → l.Pairwise (fun a b => lessS a b = true) → (∀ e ∈ out, ∀ p ∈ l, lessS e p = true) → (l.foldl (fun out p => insO p out) out).Pairwise (fun a b => aheadB a b = true) ∧ (l.foldl (fun out p => insO p out) out).Perm (out ++ l)
  | [], out, h, _, _ => ⟨h, by simp⟩
  | p :: l, out, h, hl, ho => by
    rw [List.pairwise_cons] at hl
    rw [List.foldl_cons]
    have hm : ∀ e, e ∈ insO p out ↔ e = p ∨ e ∈ out := fun e => by rw [(ins_perm p out).mem_iff, List.mem_cons]
    obtain ⟨h1, h2⟩ := ord_all l (insO p out) (ins_pair h (fun e he => ho e he p (List.mem_cons_self))) hl.2 (fun e he q hq => by
      rcases (hm e).1 he with rfl | he
      · exact hl.1 q hq
      · exact ho e he q (List.mem_cons_of_mem _ hq))
    refine ⟨h1, h2.trans ?_⟩
    have h3 : (insO p out ++ l).Perm (p :: out ++ l) := (ins_perm p out).append_right l
    exact h3.trans (by simpa using List.perm_middle.symm)
theorem lessP_ext : ∀ {A B : List (List UInt8)} (Y Z : List (List UInt8)), A.length = B.length → lessP A B = true → lessP (A ++ Y) (B ++ Z) = true
  | [], [], _, _, _, h => by simp [lessP] at h
  | [], _ :: _, _, _, h, _ => by simp at h
  | _ :: _, [], _, _, h, _ => by simp at h
  | a :: A, b :: B, Y, Z, hl, h => by
    rw [List.cons_append, List.cons_append, lessP]
    rw [lessP] at h
    split
    · rename_i e; rw [if_pos e] at h; exact lessP_ext Y Z (by simpa using hl) h
    · rename_i e; rw [if_neg e] at h; exact h
def AheadI (D : List En) (m m' : Nat) : Prop := ∀ x y, D[m]? = some x → D[m']? = some y → aheadB x.path y.path = true
theorem kdT_lt_pair (D : List En) (n : Nat) (s : List UInt8) : (kdT D n s).Pairwise (· < ·) := List.Pairwise.filter _ List.pairwise_lt_range
theorem flat_ahead {D : List En} (hc : checkE D = true) (k : Nat) (hk : ∀ i, i < D.length → (belowI D k i).Pairwise (AheadI D)) (s : List UInt8) : ((kdT D D.length s).flatMap (belowI D k)).Pairwise (AheadI D) := by
  have hn := flat_pair hc k (fun j _ => belowI_pair hc k j) s
  rw [List.pairwise_flatMap] at hn ⊢
  refine ⟨fun i hi => hk i (kdT_mem hi).1, ?_⟩
  have hb := List.Pairwise.and (kdT_lt_pair D D.length s) hn.2
  refine List.Pairwise.imp_of_mem ?_ hb
  rintro i j hi hj ⟨hij, hnot⟩ m hm m' hm' x y hx hy
  obtain ⟨xi, hxi, hli⟩ := sib_len hc hi
  obtain ⟨xj, hxj, hlj⟩ := sib_len hc hj
  obtain ⟨x', Zi, hx', hZi⟩ := belowI_pfx hc hxi hm
  obtain ⟨y', Zj, hy', hZj⟩ := belowI_pfx hc hxj hm'
  rw [hx] at hx'; cases hx'
  rw [hy] at hy'; cases hy'
  have hl := chk_less (ChkTo.of_check hc) (Nat.le_refl _) hij (List.getElem?_eq_some_iff.1 hxj).1 hxi hxj
  have hu : underS y.path x.path = false := hnot m hm m' hm' x y hx hy
  have hless : lessS x.path y.path = true := by
    unfold lessS at hl ⊢
    rw [hZi, hZj]
    exact lessP_ext _ _ (by rw [hli, hlj]) hl
  unfold aheadB
  rw [hu, hless]; simp
theorem belowI_ahead {D : List En} (hc : checkE D = true) : ∀ (k i : Nat), (belowI D k i).Pairwise (AheadI D)
  | 0, i => List.Pairwise.nil
  | k+1, i => by
    rw [belowI]
    cases hx : D[i]? with
    | none => exact List.Pairwise.nil
    | some x =>
      show ((kdT D D.length x.path.data.toList).flatMap (belowI D k) ++ [i]).Pairwise (AheadI D)
      rw [List.pairwise_append]
      refine ⟨flat_ahead hc k (fun j _ => belowI_ahead hc k j) _, List.pairwise_singleton _ _, ?_⟩
      intro m hm m' hm'
      rw [List.mem_singleton] at hm'
      subst hm'
      intro y z hy hz
      rw [hx] at hz; cases hz
      obtain ⟨j, hj, hmj⟩ := List.mem_flatMap.1 hm
      obtain ⟨_, xj, hxj, pxj⟩ := kdT_mem hj
      obtain ⟨y', Zj, hy', hZj⟩ := belowI_pfx hc hxj hmj
      rw [hy] at hy'; cases hy'
      have hs := split_parent (path_of_check hc xj (List.mem_of_getElem? hxj)).2 (right_of_check hc hxj)
      rw [pxj] at hs
      have : underS y.path x.path = true := underS_iff.2 ⟨[baseB xj.path.data.toList] ++ Zj, by rw [hZj, hs, List.append_assoc]⟩
      unfold aheadB
      rw [this]; rfl
theorem goneI_ahead {D : List En} (hc : checkE D = true) : (goneI D).Pairwise (AheadI D) := flat_ahead hc 201 (fun j _ => belowI_ahead hc 201 j) []
theorem tellI_pair {D : List En} {ws : List Int} {P : ByteArray → ByteArray → Prop} {Q : Nat → Nat → Prop} {l : List Nat} (h : l.Pairwise Q) (hq : ∀ m m' x y, Q m m' → D[m]? = some x → D[m']? = some y → P x.path y.path) : (l.flatMap (tellI D ws)).Pairwise P := by
  rw [List.pairwise_flatMap]
  refine ⟨fun m hm => ?_, List.Pairwise.imp ?_ h⟩
  · have := tellI_len D ws m
    rcases hl : tellI D ws m with _ | ⟨a, _ | ⟨b, l⟩⟩
    · exact List.Pairwise.nil
    · exact List.pairwise_singleton _ _
    · rw [hl] at this; simp at this
  · intro m m' h p hp q hq'
    obtain ⟨x, hx, rfl, _⟩ := tellI_mem hp
    obtain ⟨y, hy, rfl, _⟩ := tellI_mem hq'
    exact hq m m' x y h hx hy
/-- Those that go, as they stand. -/
def goingU (D : List En) (ws : List Int) (n : Nat) : List ByteArray := (List.range n).flatMap (tellI D ws)
theorem order_gone {S D : List En} {R : List Ru} (hc : checkE D = true) : ordO (goingU D (whyU S D R) D.length) = goneU S D R := by
  have hlt : (goingU D (whyU S D R) D.length).Pairwise (fun a b => lessS a b = true) :=
    tellI_pair (Q := fun m m' => m < m') List.pairwise_lt_range (fun m m' x y h hx hy => chk_less (ChkTo.of_check hc) (Nat.le_refl _) h (List.getElem?_eq_some_iff.1 hy).1 hx hy)
  obtain ⟨h1, h2⟩ := ord_all (goingU D (whyU S D R) D.length) [] List.Pairwise.nil hlt (fun e he => by cases he)
  rw [List.nil_append] at h2
  have h3 : (goneU S D R).Pairwise (fun a b => aheadB a b = true) := by
    rw [goneU_I]
    exact tellI_pair (goneI_ahead hc) (fun m m' x y h hx hy => h x y hx hy)
  have hg : (goneI D).Perm (List.range D.length) := by
    rw [List.perm_ext_iff_of_nodup (goneI_nodup hc) List.nodup_range]
    intro m
    rw [List.mem_range]
    exact ⟨goneI_lt, fun h => goneI_all hc (m + 1) m _ (Nat.lt_succ_self _) (List.getElem?_eq_getElem h)⟩
  have h4 : (goneU S D R).Perm (goingU D (whyU S D R) D.length) := by
    rw [goneU_I]
    exact hg.flatMap_right _
  exact List.Perm.eq_of_pairwise (le := fun a b => aheadB a b = true) (fun a b _ _ hab hba => ahead_anti hab hba) h1 h3 (h2.trans h4.symm)
theorem goingU_snoc {D : List En} {ws : List Int} {i : Nat} {x : En} (hx : D[i]? = some x) : goingU D ws (i + 1) = goingU D ws i ++ (if ws[i]? = some 0 then [x.path] else []) := by
  unfold goingU
  rw [List.range_succ, List.flatMap_append]
  congr 1
  simp [tellI, hx]
theorem goingU_len (D : List En) (ws : List Int) (n : Nat) : (goingU D ws n).length ≤ n := by
  have := flat_len (tellI D ws) (tellI_len D ws) (List.range n)
  rwa [List.length_range] at this
end Go.Proofs.Ytcagonpnjionhaa
