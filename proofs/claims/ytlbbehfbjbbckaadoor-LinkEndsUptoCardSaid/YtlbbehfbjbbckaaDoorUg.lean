import Derived.Test.YtlbbehfbjbbckaaDoorUf
import Derived.Test.YtlbbehfbjbbckaaDoorUe
import Derived.Test.YtlbbehfbjbbckaaDoorUd
import Derived.Test.YtlbbehfbjbbckaaDoorUc
import Derived.Test.YtlbbehfbjbbckaaDoorCards
import Derived.Test.YtlbbehfbjbbckaaDoorTie
import Derived.WalkKit
import Derived.ProofKit
import Derived.OpenShut
import Derived.ChangeMaps5
import Derived.Deep.DeepHandedRow
import Derived.Lib.LaidTab
import Derived.Lib.SmallJoins
/-! A path, followed: the program's Resolve. -/
set_option linter.unusedVariables false
set_option linter.unusedSimpArgs false
namespace Go.Proofs.YtlbbehfbjbbckaaDoor
open Go.RowKit

def leftAt (wr : World) (g : Nat) : Nat := match wr.cell? ⟨g, 2, none⟩, wr.cell? ⟨g, 3, none⟩ with | some (.slice _ n _), some (.int _ h) => n + 202 * (16 - h.toNat) | _, _ => 0
theorem WkAt.left {w : World} {g t : Nat} {s : Wk} (h : WkAt w g t s) : leftAt w g = leftW s := by
  obtain ⟨A, n, c, h0, h1, h2, h3⟩ := h
  have e2 := h1.cell 2
  have e3 := h1.cell 3
  simp only [List.getElem?_cons_zero, List.getElem?_cons_succ] at e2 e3
  unfold leftAt leftW
  rw [e2, e3, ← h2.strsLen]
  simp
set_option maxRecDepth 100000 in
set_option maxHeartbeats 4000000 in
theorem resolve_any (t top c : Nat) (next : Int) (N : Nat → Option Nd) (p : ByteArray) (w : World) (hT : TreeAt w t top next c N) (htg : ∀ i n, N i = some n → n.target.size ≤ 200) (hp : p.size ≤ 2097152) :
    Calls Tryd.prog 16 #[.pointer (some ⟨t, 0, none⟩), .string p] w fun e w' => e = .returned (.tuple #[.string (str (resolveU (kindP N top) p.data.toList).1), .int .i64 (resolveU (kindP N top) p.data.toList).2]) ∧ Below w.heap.size w w' := by
  obtain ⟨X, hX⟩ : ∃ X, resolveU (kindP N top) p.data.toList = X := ⟨_, rfl⟩
  have HX : Hid ((if rightB p.data.toList = false then ([], (9 : Int)) else runW (kindP N top) (leftW ⟨[], splitB p.data.toList, 0⟩) ⟨[], splitB p.data.toList, 0⟩) = X) := Lib.hid hX
  rw [hX]
  have HR := Lib.hid (fun w => right_any p _ w rfl hp)
  have HSP := Lib.hid (fun w => pathSplit_own p w hp)
  have HOW := Lib.hid (fun h => OkW.start (kindP N top) (p := p.data.toList) h)
  have HK := Lib.hid (okK top htg)
  have HT := Lib.hid hT
  have HTG := Lib.hid htg
  clear hX hT htg
  obtain ⟨rb, hrb⟩ : ∃ rb, rightB p.data.toList = rb := ⟨_, rfl⟩
  rw [hrb] at HX HR HOW
  clear hrb
  generalize splitB p.data.toList = Y at *
  go_enter Tryd.func16, Tryd.ntmps16
  go_wp2_with fail
  refine (HR.out w).mono ?_
  rintro e w1 ⟨rfl, hb1⟩
  have HB1 := Lib.hid hb1
  have T1 := Lib.hid (HT.out.below hb1)
  clear hb1 HR HT
  cases rb with
  | false =>
    have K := Lib.hid (show X = ([], (9 : Int)) from HX.out.symm)
    go_wp2_with fail
    go_ret2
    rw [K.out]
    exact ⟨rfl, HB1.out⟩
  | true =>
  have HX1 := Lib.hid (show runW (kindP N top) (leftW ⟨[], Y, 0⟩) ⟨[], Y, 0⟩ = X from HX.out)
  have HO1 := Lib.hid (HOW.out rfl)
  clear HX HOW
  go_wp2_with fail
  refine (HSP.out w1).mono ?_
  rintro e w2 ⟨⟨v2, rfl, hown⟩, hb2⟩
  obtain ⟨A, cc, rfl, hnc, hsl, hlow, _⟩ := own_sl hown
  have HB2 := Lib.hid (HB1.out.trans (hb2.mono HB1.out.size))
  have T2 := Lib.hid (T1.out.below hb2)
  have S2 := Lib.hid hsl
  have HA := Lib.hid (show ∀ a, A = some a → a.block ≠ w2.heap.size from fun a ha => by have := (hown.lt a.block (hlow a ha).2).2; omega)
  have hal := (Below.refl w2.heap.size w2).alloc (Nat.le_refl _) (.cells #[.pointer (some ⟨t, 0, none⟩), .string ⟨#[]⟩, .slice A Y.length cc, .int .i64 0] 57)
  have T3 := Lib.hid (T2.out.below hal)
  have W3 := Lib.hid (show WkAt (w2.alloc (.cells #[.pointer (some ⟨t, 0, none⟩), .string ⟨#[]⟩, .slice A Y.length cc, .int .i64 0] 57)) w2.heap.size t ⟨[], Y, 0⟩ from ⟨A, _, cc, hnc, Blk.newA w2 57 #[.pointer (some ⟨t, 0, none⟩), .string ⟨#[]⟩, .slice A Y.length cc, .int .i64 0], S2.out.below hal, HA.out⟩)
  have B3 := Lib.hid (HB2.out.trans (hal.mono HB2.out.size))
  have hgz : w.heap.size ≤ w2.heap.size := HB2.out.size
  clear hb2 HSP HB1 T1 hsl hown hlow hal HB2 S2 HA T2
  go_wp2_with fail
  go_loopw [7] (fun u wr => ∃ s, WkAt wr w2.heap.size t s ∧ OkW (kindP N top) s ∧ runW (kindP N top) (leftW s) s = X ∧ TreeAt wr t top next c N ∧ Below w.heap.size w wr) (fun _ wr => leftAt wr w2.heap.size)
  case atStart => exact ⟨⟨[], Y, 0⟩, W3.out, HO1.out, HX1.out, T3.out, B3.out⟩
  case round =>
    obtain ⟨s, hw, hok, hx, ht, hb⟩ := hrel
    have HW := Lib.hid hw
    have HO := Lib.hid hok
    have HXr := Lib.hid hx
    have HTr := Lib.hid ht
    have HB := Lib.hid hb
    obtain ⟨A1, n1, c1, g0, g1, g2, g3⟩ := hw
    have hl := g2.strsLen
    have HG1 := Lib.hid g1
    obtain ⟨y0, y1, y2, y3, _⟩ := walker_cells g1
    clear hok hx ht hb g0 g1 g2 g3 W3 HO1 HX1 T3 B3
    by_cases hr : s.row = []
    · have hn1 : n1 = 0 := by rw [← hl, hr]; rfl
      subst hn1
      have K := Lib.hid (show X = (s.at_, 0) by rw [← HXr.out]; exact runW_end _ hr)
      clear hl hr
      go_wp2_with fail
      go_ret2
      rw [K.out]
      exact ⟨rfl, HB.out⟩
    · have hn1 : 0 < n1 := by
        rw [← hl]
        exact List.length_pos_iff.2 hr
      have e1 : decide ((0 : Int) < (n1 : Int)) = true := decide_eq_true (by omega)
      have e2 : (0 : Int) < (n1 : Int) := by omega
      have HST := Lib.hid (step_any w2.heap.size t top c next N s wr HW.out HTr.out HO.out HTG.out hr)
      have HRS := Lib.hid (runW_step HK.out HO.out hr)
      have HLT := Lib.hid (leftW_step HK.out HO.out hr)
      have HOS := Lib.hid (HO.out.step HK.out)
      have HLW := Lib.hid HW.out.left
      clear hl hr
      generalize stepW (kindP N top) s = sp at *
      obtain ⟨s', e'⟩ := sp
      go_wp2_with fail
      refine HST.out.mono ?_
      rintro e w4 ⟨rfl, hw4, ho4⟩
      have W4 := Lib.hid hw4
      have T4 := Lib.hid (HTr.out.other (T := 57) HG1.out (by decide) (by decide) (by decide) (fun k hk hne => ho4.block k hk hne))
      have B4 := Lib.hid (HB.out.trans (ho4.below HB.out.size (fun k hk => by rw [hk]; exact hgz)))
      clear hw4 ho4 HST
      by_cases he : e' = 0
      · subst he
        have HR4 := Lib.hid (show runW (kindP N top) (leftW s') s' = X by rw [← HXr.out, HRS.out]; exact (if_pos rfl).symm)
        go_wp2_with fail
        go_roundw
        case rel => exact ⟨s', W4.out, HOS.out, HR4.out, T4.out, B4.out⟩
        case measure => rw [W4.out.left, HLW.out]; exact HLT.out
      · have q1 : (e' != 0) = true := by simpa using he
        have K := Lib.hid (show X = ([], e') by rw [← HXr.out, HRS.out]; exact if_neg he)
        clear he
        go_wp2_with fail
        go_ret2
        rw [K.out]
        exact ⟨rfl, B4.out⟩
end Go.Proofs.YtlbbehfbjbbckaaDoor

/-! A tree in memory that is a plain one: New, Mkdir, Symlink, Write, Resolve over it. -/
set_option linter.unusedVariables false
set_option linter.unusedSimpArgs false
namespace Go.Proofs.YtlbbehfbjbbckaaDoor
open Go.RowKit

/-- At t lies a tree that is S; it owns the blocks O. -/
def TreeS (w : World) (t c : Nat) (S : St) (O : Nat → Prop) : Prop :=
  ∃ top N, TreeAt w t top S.next c N ∧ Rep N top S ∧ OkS S ∧ ∀ k, k = t ∨ heldT N k → O k
theorem TreeS.ok {w : World} {t c : Nat} {S : St} {O : Nat → Prop} (h : TreeS w t c S O) : OkS S := by obtain ⟨_, _, _, _, h, _⟩ := h; exact h
theorem heldT_lt {w : World} {t top c : Nat} {next : Int} {N : Nat → Option Nd} (h : TreeAt w t top next c N) : ∀ k, k = t ∨ heldT N k → k < w.heap.size := by
  rintro k (rfl | ⟨n, hi⟩ | ⟨i, n, a, hi, ha, rfl⟩ | ⟨i, n, hi, hk⟩)
  · exact h.tree.lt
  · exact (h.node k n hi).lt
  · obtain ⟨cs, hc⟩ := (h.data i n hi).2 a ha
    exact (Array.getElem?_eq_some_iff.1 hc).1
  · exact (h.kids i n k hi hk).lt
theorem TreeS.keep {w w' : World} {t c : Nat} {S : St} {O P : Nat → Prop} (h : TreeS w t c S O) (hw : Only P w w') (hd : ∀ k, O k → ¬ P k) : TreeS w' t c S O := by
  obtain ⟨top, N, h1, h2, h3, h4⟩ := h
  have hh : ∀ k, k = t ∨ heldT N k → w'.heap[k]? = w.heap[k]? := fun k hk => hw.block k (heldT_lt h1 k hk) (hd k (h4 k hk))
  exact ⟨top, N, h1.heap (h1.tree.heap (hh t (.inl rfl))) (fun k hk => hh k (.inr hk)), h2, h3, h4⟩
theorem TreeS.below {w w' : World} {t c : Nat} {S : St} {O : Nat → Prop} (h : TreeS w t c S O) (hb : Below w.heap.size w w') : TreeS w' t c S O := by
  obtain ⟨top, N, h1, h2, h3, h4⟩ := h
  exact ⟨top, N, h1.below hb, h2, h3, h4⟩
theorem TreeS.lt {w : World} {t c : Nat} {S : St} {O : Nat → Prop} (h : TreeS w t c S O) : ∃ O', TreeS w t c S O' ∧ (∀ k, O' k → O k ∧ k < w.heap.size) := by
  obtain ⟨top, N, h1, h2, h3, h4⟩ := h
  exact ⟨fun k => k = t ∨ heldT N k, ⟨top, N, h1, h2, h3, fun k hk => hk⟩, fun k hk => ⟨h4 k hk, heldT_lt h1 k hk⟩⟩
theorem TreeS.mono {w : World} {t c c' : Nat} {S : St} {O O' : Nat → Prop} (h : TreeS w t c S O) (hc : c ≤ c') (ho : ∀ k, O k → O' k) : TreeS w t c' S O' := by
  obtain ⟨top, N, h1, h2, h3, h4⟩ := h
  exact ⟨top, N, h1.mono hc, h2, h3, fun k hk => ho k (h4 k hk)⟩
/-- What an act leaves: the tree is another one; what it does not own has not changed. -/
def ActPost (w w' : World) (t c : Nat) (S' : St) (O : Nat → Prop) : Prop := ∃ O', TreeS w' t (c + 1) S' O' ∧ Only O w w' ∧ ∀ k, O' k → O k ∨ w.heap.size ≤ k
theorem ownT_held {t : Nat} {N : Nat → Option Nd} {k : Nat} (h : ownT t N k) : k = t ∨ heldT N k := by
  rcases h with h | ⟨n, h⟩ | ⟨i, n, h1, h2⟩
  · exact .inl h
  · exact .inr (.inl ⟨n, h⟩)
  · exact .inr (.inr (.inr ⟨i, n, h1, h2⟩))
theorem act_same {w w' : World} {t c : Nat} {S : St} {O : Nat → Prop} (h : TreeS w t c S O) (hb : Below w.heap.size w w') : ActPost w w' t c S O :=
  ⟨O, (h.below hb).mono (Nat.le_succ c) (fun _ h => h), Only.of hb, fun k hk => .inl hk⟩
theorem heldT_add {w : World} {t d n : Nat} {N : Nat → Option Nd} {y : Inf} {x : Nd} {s : List UInt8} (hm : Made w N y n x) : ∀ k, k = t ∨ heldT (addN N d n x s) k → (k = t ∨ heldT N k) ∨ w.heap.size ≤ k := by
  rintro k (rfl | ⟨m, hi⟩ | ⟨i, m, a, hi, ha, rfl⟩ | ⟨i, m, hi, hk⟩)
  · exact .inl (.inl rfl)
  · rcases addN_some hi with ⟨rfl, rfl⟩ | ⟨h1, m0, hm0, _⟩
    · exact .inr hm.low
    · exact .inl (.inr (.inl ⟨m0, hm0⟩))
  · rcases addN_some hi with ⟨rfl, rfl⟩ | ⟨h1, m0, hm0, _, e, _⟩
    · exact .inr (hm.data a ha)
    · exact .inl (.inr (.inr (.inl ⟨i, m0, a, hm0, by rw [← e]; exact ha, rfl⟩)))
  · rcases addN_some hi with ⟨rfl, rfl⟩ | ⟨h1, m0, hm0, _, _, _, _, e, _⟩
    · exact .inr (hm.map k hk)
    · exact .inl (.inr (.inr (.inr ⟨i, m0, hm0, by rw [← e]; exact hk⟩)))
theorem thN_inf {x : Nd} {k i : Int} {m : Mt} {tg : ByteArray} {l : List UInt8} (h : infN x = ⟨k, i, m, tg, l⟩) : thN x = ⟨k, m, tg, l⟩ ∧ x.ino = i := by
  unfold infN at h
  simp only [Inf.mk.injEq] at h
  obtain ⟨h1, h2, h3, h4, h5⟩ := h
  unfold thN
  rw [h1, h3, h4, h5]
  exact ⟨rfl, h2⟩
theorem put_act {w w' : World} {t top c d n : Nat} {S : St} {N : Nat → Option Nd} {p : List UInt8} {x : Nd} {k : Int} {m : Mt} {tg : ByteArray} {l : List UInt8} {O : Nat → Prop} (hR : Rep N top S) (ho : OkS S) (hO : ∀ k, k = t ∨ heldT N k → O k)
    (hl : lookN N top p = (none, some d, 0)) (hm : Made w N ⟨k, S.next, m, tg, l⟩ n x) (hT : TreeAt w' t top (S.next + 1) (c + 1) (addN N d n x (baseB p))) (hw : Only (ownT t N) w w') (hk : k = 1 ∨ k = 2 ∨ k = 3) (ht : tg.size ≤ 200) (hl5 : l.length ≤ 65536) :
    ActPost w w' t c (S.add p ⟨k, m, tg, l⟩) O := by
  obtain ⟨e1, e2⟩ := thN_inf hm.inf
  have hS : S.look p = (none, 0) := by
    obtain ⟨h1, h2⟩ := hR.look ho p
    rw [hl] at h1 h2
    exact Prod.ext ((h1.none_iff).1 rfl) h2.symm
  have hR' := hR.put ho hl hm.not hm.kids e2 hm.links
  rw [e1] at hR'
  exact ⟨fun j => O j ∨ w.heap.size ≤ j, ⟨top, _, hT, hR', ho.add hS hk ⟨ht, hl5⟩, fun j hj => (heldT_add hm j hj).imp (hO j) id⟩, hw.mono (fun j _ hj => hO j (ownT_held hj)), fun j hj => hj⟩
theorem NewS_any (w : World) :
    Calls Tryd.prog 19 #[] w fun e w' => ∃ t, e = .returned (.pointer (some ⟨t, 0, none⟩)) ∧ TreeS w' t 0 newS (fun k => w.heap.size ≤ k) ∧ Below w.heap.size w w' := by
  refine (New_any w).mono ?_
  rintro e w' ⟨t, top, kb, rfl, hT, h1, h2, h3, hb⟩
  refine ⟨t, rfl, ⟨top, _, hT, rep_new top kb, okS_new, ?_⟩, hb⟩
  rintro k (rfl | ⟨n, hi⟩ | ⟨i, n, a, hi, ha, rfl⟩ | ⟨i, n, hi, hk⟩)
  · exact h1
  · rw [(N0_some hi).1]; exact h2
  · rw [(N0_some hi).2] at ha; cases ha
  · rw [(N0_some hi).2] at hk; cases hk; exact h3
theorem MkdirS_any (t c : Nat) (S : St) (O : Nat → Prop) (p : ByteArray) (m : Mt) (w : World) (h : TreeS w t c S O) (hp : p.size ≤ 2097152) (hn0 : 0 ≤ S.next) (hn1 : S.next ≤ 1099511627776) (hc : c ≤ 1099511627776) :
    Calls Tryd.prog 20 #[.pointer (some ⟨t, 0, none⟩), .string p, aggM m] w fun e w' => e = .returned (.int .i64 (S.mkdir p.data.toList m).1) ∧ ActPost w w' t c (S.mkdir p.data.toList m).2 O := by
  obtain ⟨top, N, hT, hR, ho, hO⟩ := h
  refine (Mkdir_any t top c S.next N p m w hT hp hn0 hn1 hc).mono ?_
  rintro e w' ⟨rfl, hpost⟩
  have hf := hR.fresh ho p.data.toList
  have hE : mkdirU N top p.data.toList m = (S.mkdir p.data.toList m).1 := by
    unfold mkdirU St.mkdir
    by_cases h1 : mayU p.data.toList m = 0
    · rw [if_pos h1, if_neg (fun h => h h1), hf]
      by_cases h2 : freshS (S.look p.data.toList) = 0
      · rw [if_neg (fun h => h h2)]; exact h2
      · rw [if_pos h2]
    · rw [if_neg h1, if_pos h1]
  rw [hE] at hpost
  refine ⟨by rw [hE], ?_⟩
  rcases hpost with ⟨h1, h2, h3⟩ | ⟨h1, d, n, x, h2, h3, h4, h5⟩
  · have : (S.mkdir p.data.toList m).2 = S := by
      unfold St.mkdir at h1 ⊢
      split
      · rfl
      split
      · rfl
      · rename_i a b; rw [if_neg a, if_neg b] at h1; exact absurd rfl h1
    rw [this]
    exact act_same ⟨top, N, hT, hR, ho, hO⟩ h3
  · have : (S.mkdir p.data.toList m).2 = S.add p.data.toList ⟨2, m, ⟨#[]⟩, []⟩ := by
      unfold St.mkdir at h1 ⊢
      split
      · rename_i a; rw [if_pos a] at h1; exact absurd h1 a
      split
      · rename_i a b; rw [if_neg a, if_pos b] at h1; exact absurd h1 b
      · rfl
    rw [this]
    exact put_act hR ho hO h2 h3 h4 h5 (.inr (.inl rfl)) (Nat.zero_le _) (Nat.zero_le _)
theorem SymlinkS_any (t c : Nat) (S : St) (O : Nat → Prop) (p tg : ByteArray) (m : Mt) (w : World) (h : TreeS w t c S O) (hp : p.size ≤ 2097152) (hn0 : 0 ≤ S.next) (hn1 : S.next ≤ 1099511627776) (hc : c ≤ 1099511627776) :
    Calls Tryd.prog 22 #[.pointer (some ⟨t, 0, none⟩), .string p, .string tg, aggM m] w fun e w' => e = .returned (.int .i64 (S.symlink p.data.toList tg m).1) ∧ ActPost w w' t c (S.symlink p.data.toList tg m).2 O := by
  obtain ⟨top, N, hT, hR, ho, hO⟩ := h
  refine (Symlink_any t top c S.next N p tg m w hT hp hn0 hn1 hc).mono ?_
  rintro e w' ⟨rfl, hpost⟩
  have hf := hR.fresh ho p.data.toList
  have hE : symU N top p.data.toList tg m = (S.symlink p.data.toList tg m).1 := by
    unfold symU St.symlink
    rw [hf]
    by_cases h1 : mayU p.data.toList m = 0
    · by_cases h2 : tg.size = 0
      · simp [h1, h2]
      by_cases h3 : 200 < tg.size
      · simp [h1, h2, h3]
      by_cases h4 : freshS (S.look p.data.toList) = 0
      · simp [h1, h2, h3, h4]
      · simp [h1, h2, h3, h4]
    · simp [h1]
  rw [hE] at hpost
  refine ⟨by rw [hE], ?_⟩
  rcases hpost with ⟨h1, h2, h3⟩ | ⟨h1, d, n, x, h2, h3, h4, h5⟩
  · have : (S.symlink p.data.toList tg m).2 = S := by
      unfold St.symlink at h1 ⊢
      split
      · rfl
      split
      · rfl
      split
      · rfl
      split
      · rfl
      · rename_i a b c d; rw [if_neg a, if_neg b, if_neg c, if_neg d] at h1; exact absurd rfl h1
    rw [this]
    exact act_same ⟨top, N, hT, hR, ho, hO⟩ h3
  · have : (S.symlink p.data.toList tg m).2 = S.add p.data.toList ⟨3, m, tg, []⟩ ∧ tg.size ≤ 200 := by
      unfold St.symlink at h1 ⊢
      split
      · rename_i a; rw [if_pos a] at h1; exact absurd h1 a
      split
      · rename_i a b; rw [if_neg a, if_pos b] at h1; cases h1
      split
      · rename_i a b c; rw [if_neg a, if_neg b, if_pos c] at h1; cases h1
      split
      · rename_i a b c d; rw [if_neg a, if_neg b, if_neg c, if_pos d] at h1; exact absurd h1 d
      · exact ⟨rfl, by omega⟩
    rw [this.1]
    exact put_act hR ho hO h2 h3 h4 h5 (.inr (.inr rfl)) this.2 (Nat.zero_le _)
theorem heldT_set {w : World} {t k0 : Nat} {N : Nat → Option Nd} {x x' : Nd} (hk : N k0 = some x) (e1 : x'.kb = x.kb) (hd : ∀ a, x'.dA = some a → w.heap.size ≤ a.block) : ∀ k, k = t ∨ heldT (setN N k0 x') k → (k = t ∨ heldT N k) ∨ w.heap.size ≤ k := by
  rintro k (rfl | ⟨m, hi⟩ | ⟨i, m, a, hi, ha, rfl⟩ | ⟨i, m, hi, hkk⟩)
  · exact .inl (.inl rfl)
  · rcases setN_some hi with ⟨rfl, rfl⟩ | ⟨_, hm⟩
    · exact .inl (.inr (.inl ⟨x, hk⟩))
    · exact .inl (.inr (.inl ⟨m, hm⟩))
  · rcases setN_some hi with ⟨rfl, rfl⟩ | ⟨_, hm⟩
    · exact .inr (hd a ha)
    · exact .inl (.inr (.inr (.inl ⟨i, m, a, hm, ha, rfl⟩)))
  · rcases setN_some hi with ⟨rfl, rfl⟩ | ⟨_, hm⟩
    · exact .inl (.inr (.inr (.inr ⟨i, x, hk, by rw [← e1]; exact hkk⟩)))
    · exact .inl (.inr (.inr (.inr ⟨i, m, hm, hkk⟩)))
theorem write_err (S : St) (p l : List UInt8) (m : Mt) (h : (S.write p l m).1 ≠ 0) : (S.write p l m).2 = S := by
  unfold St.write at h ⊢
  by_cases a : mayU p m ≠ 0
  · rw [if_pos a]
  rw [if_neg a] at h ⊢
  by_cases b : 65536 < l.length
  · rw [if_pos b]
  rw [if_neg b] at h ⊢
  by_cases c : (S.look p).2 ≠ 0
  · rw [if_pos c]
  rw [if_neg c] at h ⊢
  cases hd : (S.look p).1 with
  | none => rw [hd] at h; exact absurd rfl h
  | some i =>
    rw [hd] at h
    simp only at h ⊢
    by_cases e : fileU (S.th i).kind ≠ 0
    · rw [if_pos e]
    · rw [if_neg e] at h; exact absurd rfl h
theorem WriteS_any (t c : Nat) (S : St) (O : Nat → Prop) (p : ByteArray) (A : Option Addr) (n0 cp : Nat) (l : List UInt8) (m : Mt) (w : World) (h : TreeS w t c S O) (hs : Sl 1 w A n0 (bys l)) (hp : p.size ≤ 2097152) (hn0 : 0 ≤ S.next) (hn1 : S.next ≤ 1099511627776) (hc : c ≤ 1099511627776) :
    Calls Tryd.prog 21 #[.pointer (some ⟨t, 0, none⟩), .string p, .slice A n0 cp, aggM m] w fun e w' => e = .returned (.int .i64 (S.write p.data.toList l m).1) ∧ ActPost w w' t c (S.write p.data.toList l m).2 O := by
  obtain ⟨top, N, hT, hR, ho, hO⟩ := h
  have hlen : n0 = l.length := by have := hs.len; rw [bys_length] at this; omega
  refine (Write_any t top c S.next N p A n0 cp l m w hT hs hp hn0 hn1 hc).mono ?_
  rintro e w' ⟨rfl, hpost⟩
  obtain ⟨hf1, hf2⟩ := hR.look ho p.data.toList
  have hE : writeU N top p.data.toList n0 m = (S.write p.data.toList l m).1 := by
    unfold writeU St.write
    rw [hlen]
    unfold writeL
    rw [hf2]
    by_cases h1 : mayU p.data.toList m = 0
    · by_cases h2 : 65536 < l.length
      · simp [h1, h2]
      by_cases h3 : (S.look p.data.toList).2 = 0
      · generalize (lookN N top p.data.toList).1 = o at *
        cases o with
        | none => rw [(hf1.none_iff).1 rfl]; simp [h1, h2, h3]
        | some k =>
          obtain ⟨n, hn, e⟩ := hf1.some
          rw [e]
          have hkk : (S.th n.ino).kind = n.kind := by rw [hR.info k n hn]; rfl
          by_cases h4 : fileU n.kind = 0
          · simp [h1, h2, h3, h4, kindN, hn, hkk]
          · simp [h1, h2, h3, h4, kindN, hn, hkk]
      · simp [h1, h2, h3]
    · simp [h1]
  rw [hE] at hpost
  refine ⟨by rw [hE], ?_⟩
  have HL65 : (S.write p.data.toList l m).1 = 0 → l.length ≤ 65536 := fun h => by
    unfold St.write at h
    by_cases a : mayU p.data.toList m ≠ 0
    · rw [if_pos a] at h; exact absurd h a
    rw [if_neg a] at h
    by_cases b : 65536 < l.length
    · rw [if_pos b] at h; cases h
    omega
  rcases hpost with ⟨h1, h2, h3⟩ | ⟨h1, d, n, x, h2, h3, h4, h5⟩ | ⟨h1, k, d, x, x', h2, h3, h4, h5, h6, h7, h8, h9, h10, h11⟩
  · have : (S.write p.data.toList l m).2 = S := write_err _ _ _ _ h1
    rw [this]
    exact act_same ⟨top, N, hT, hR, ho, hO⟩ h3
  · have hl65 := HL65 h1
    have hS0 : (S.look p.data.toList).1 = none ∧ (S.look p.data.toList).2 = 0 := by rw [h2] at hf1 hf2; exact ⟨(hf1.none_iff).1 rfl, hf2.symm⟩
    have : (S.write p.data.toList l m).2 = S.add p.data.toList ⟨1, m, ⟨#[]⟩, l⟩ := by
      unfold St.write at h1 ⊢
      split
      · rename_i a; rw [if_pos a] at h1; exact absurd h1 a
      split
      · rename_i a b; rw [if_neg a, if_pos b] at h1; cases h1
      split
      · rename_i a b c; exact absurd hS0.2 c
      rw [hS0.1]
    rw [this]
    exact put_act hR ho hO h2 h3 h4 h5 (.inl rfl) (Nat.zero_le _) hl65
  · have hl65 := HL65 h1
    obtain ⟨e1, e2⟩ := thN_inf h8
    have hth : S.th x.ino = thN x := hR.info k x h3
    have hS0 : (S.look p.data.toList).1 = some x.ino ∧ (S.look p.data.toList).2 = 0 := by
      rw [h2] at hf1 hf2
      obtain ⟨n, hn, e⟩ := hf1.some
      rw [h3, Option.some.injEq] at hn
      subst hn
      exact ⟨e, hf2.symm⟩
    have hx' : thN x' = { S.th x.ino with mt := m, data := l } := by rw [e1, hth]; rfl
    have : (S.write p.data.toList l m).2 = { S with th := setT S.th x.ino (thN x') } := by
      unfold St.write at h1 ⊢
      split
      · rename_i a; rw [if_pos a] at h1; exact absurd h1 a
      split
      · rename_i a b; rw [if_neg a, if_pos b] at h1; cases h1
      split
      · rename_i a b c; exact absurd hS0.2 c
      rw [hS0.1]
      simp only [hth]
      rw [if_neg (fun h => h (show fileU (thN x).kind = 0 from h4)), hx', hth]
    rw [this]
    have hk' : x'.kind = x.kind := by have := congrArg Th.kind e1; exact this
    have ht' : (thN x').target.size ≤ 200 ∧ (thN x').data.length ≤ 65536 := by
      rw [e1]; exact ⟨hR.tgt ho k x h3, hl65⟩
    exact ⟨fun j => O j ∨ w.heap.size ≤ j, ⟨top, _, h10.mono (Nat.le_succ c), hR.set h3 h5 e2 h7 hk', ho.set _ _ (by rw [hth]; exact hk') ht', fun j hj => (heldT_set h3 h6 h9 j hj).imp (hO j) id⟩, h11.mono (fun j _ hj => hO j (ownT_held hj)), fun j hj => hj⟩
theorem resolveS_any (t c : Nat) (S : St) (O : Nat → Prop) (p : ByteArray) (w : World) (h : TreeS w t c S O) (hp : p.size ≤ 2097152) :
    Calls Tryd.prog 16 #[.pointer (some ⟨t, 0, none⟩), .string p] w fun e w' => e = .returned (.tuple #[.string (str (resolveU S.kindS p.data.toList).1), .int .i64 (resolveU S.kindS p.data.toList).2]) ∧ Below w.heap.size w w' := by
  obtain ⟨top, N, hT, hR, ho, hO⟩ := h
  have := resolve_any t top c S.next N p w hT (hR.tgt ho) hp
  rwa [show kindP N top = S.kindS from funext fun q => hR.kind ho q] at this
end Go.Proofs.YtlbbehfbjbbckaaDoor

/-! The chapter's examples of links: the law's awake. -/
set_option linter.unusedVariables false
set_option linter.unusedSimpArgs false
namespace Go.Proofs.YtlbbehfbjbbckaaDoor
open Go.RowKit
attribute [local go_sem] str_toList

/-- A tree that the call made, beside a Meta of the call's own. -/
def Awk (w0 w : World) (t c gm : Nat) (S : St) : Prop :=
  ∃ O, TreeS w t c S O ∧ ¬ O gm ∧ Blk w gm 36 [.int .i64 420, .int .i64 0, .int .i64 0, .int .i64 0, .int .i64 0] ∧ (∀ k, O k → w0.heap.size ≤ k) ∧ Below w0.heap.size w0 w
theorem Awk.act {w0 w w' : World} {t c gm : Nat} {S' : St} {O : Nat → Prop} (h1 : ¬ O gm) (h2 : Blk w gm 36 [.int .i64 420, .int .i64 0, .int .i64 0, .int .i64 0, .int .i64 0]) (h3 : ∀ k, O k → w0.heap.size ≤ k) (h4 : Below w0.heap.size w0 w) (h : ActPost w w' t c S' O) : Awk w0 w' t (c + 1) gm S' := by
  obtain ⟨O', g1, g2, g3⟩ := h
  refine ⟨O', g1, fun hg => (g3 gm hg).elim h1 (fun h => by have := h2.lt; omega), h2.heap (g2.block gm h2.lt h1), fun k hk => (g3 k hk).elim (h3 k) (fun h => Nat.le_trans h4.size h), h4.trans (g2.below h4.size h3)⟩
theorem Awk.below {w0 w w' : World} {t c gm : Nat} {S : St} (h : Awk w0 w t c gm S) (hb : Below w.heap.size w w') : Awk w0 w' t c gm S := by
  obtain ⟨O, h0, h1, h2, h3, h4⟩ := h
  exact ⟨O, h0.below hb, h1, h2.below hb, h3, h4.trans (hb.mono h4.size)⟩
theorem Awk.cells {w0 w : World} {t c gm : Nat} {S : St} (h : Awk w0 w t c gm S) : w.cell? ⟨gm, 0, none⟩ = some (.int .i64 420) ∧ w.cell? ⟨gm, 1, none⟩ = some (.int .i64 0) ∧ w.cell? ⟨gm, 2, none⟩ = some (.int .i64 0) ∧ w.cell? ⟨gm, 3, none⟩ = some (.int .i64 0) ∧ w.cell? ⟨gm, 4, none⟩ = some (.int .i64 0) := by
  obtain ⟨O, _, _, h2, _⟩ := h
  exact meta_cells h2
def m420 : Mt := ⟨420, 0, 0, 0, 0⟩
theorem mkdirA (w0 w : World) (t c gm : Nat) (S S' : St) (p : ByteArray) (r : Int) (h : Awk w0 w t c gm S) (hr : S.mkdir p.data.toList m420 = (r, S')) (hp : p.size ≤ 2097152) (hn0 : 0 ≤ S.next) (hn1 : S.next ≤ 1099511627776) (hc : c ≤ 1099511627776) :
    Calls Tryd.prog 20 #[.pointer (some ⟨t, 0, none⟩), .string p, .agg #[.int .i64 420, .int .i64 0, .int .i64 0, .int .i64 0, .int .i64 0]] w fun e w' => e = .returned (.int .i64 r) ∧ Awk w0 w' t (c + 1) gm S' := by
  obtain ⟨O, h0, h1, h2, h3, h4⟩ := h
  refine (MkdirS_any t c S O p m420 w h0 hp hn0 hn1 hc).mono ?_
  rintro e w' ⟨rfl, hx⟩
  rw [hr] at hx ⊢
  exact ⟨rfl, Awk.act h1 h2 h3 h4 hx⟩
theorem writeA (w0 w : World) (t c gm : Nat) (S S' : St) (p : ByteArray) (r : Int) (h : Awk w0 w t c gm S) (hr : S.write p.data.toList [] m420 = (r, S')) (hp : p.size ≤ 2097152) (hn0 : 0 ≤ S.next) (hn1 : S.next ≤ 1099511627776) (hc : c ≤ 1099511627776) :
    Calls Tryd.prog 21 #[.pointer (some ⟨t, 0, none⟩), .string p, .slice none 0 0, .agg #[.int .i64 420, .int .i64 0, .int .i64 0, .int .i64 0, .int .i64 0]] w fun e w' => e = .returned (.int .i64 r) ∧ Awk w0 w' t (c + 1) gm S' := by
  obtain ⟨O, h0, h1, h2, h3, h4⟩ := h
  refine (WriteS_any t c S O p none 0 0 [] m420 w h0 (Sl.nil _ _ _) hp hn0 hn1 hc).mono ?_
  rintro e w' ⟨rfl, hx⟩
  rw [hr] at hx ⊢
  exact ⟨rfl, Awk.act h1 h2 h3 h4 hx⟩
theorem symlinkA (w0 w : World) (t c gm : Nat) (S S' : St) (p tg : ByteArray) (r : Int) (h : Awk w0 w t c gm S) (hr : S.symlink p.data.toList tg m420 = (r, S')) (hp : p.size ≤ 2097152) (hn0 : 0 ≤ S.next) (hn1 : S.next ≤ 1099511627776) (hc : c ≤ 1099511627776) :
    Calls Tryd.prog 22 #[.pointer (some ⟨t, 0, none⟩), .string p, .string tg, .agg #[.int .i64 420, .int .i64 0, .int .i64 0, .int .i64 0, .int .i64 0]] w fun e w' => e = .returned (.int .i64 r) ∧ Awk w0 w' t (c + 1) gm S' := by
  obtain ⟨O, h0, h1, h2, h3, h4⟩ := h
  refine (SymlinkS_any t c S O p tg m420 w h0 hp hn0 hn1 hc).mono ?_
  rintro e w' ⟨rfl, hx⟩
  rw [hr] at hx ⊢
  exact ⟨rfl, Awk.act h1 h2 h3 h4 hx⟩
theorem resolveA (w0 w : World) (t c gm : Nat) (S : St) (p : ByteArray) (q : List UInt8) (r : Int) (h : Awk w0 w t c gm S) (hr : resolveU S.kindS p.data.toList = (q, r)) (hp : p.size ≤ 2097152) :
    Calls Tryd.prog 16 #[.pointer (some ⟨t, 0, none⟩), .string p] w fun e w' => e = .returned (.tuple #[.string (str q), .int .i64 r]) ∧ Awk w0 w' t c gm S := by
  have h' := h
  obtain ⟨O, h0, h1, h2, h3, h4⟩ := h
  refine (resolveS_any t c S O p w h0 hp).mono ?_
  rintro e w' ⟨rfl, hx⟩
  rw [hr]
  exact ⟨rfl, h'.below hx⟩
def kA : St := (newS.mkdir [100] m420).2
def kB : St := (kA.write [100, 47, 101] [] m420).2
def kC : St := (kB.symlink [108] ⟨#[100, 47, 101]⟩ m420).2
def kD : St := (kC.symlink [120] ⟨#[120]⟩ m420).2
def kE : St := (kD.symlink [97] ⟨#[46, 46]⟩ m420).2
theorem eA : newS.mkdir [100] m420 = (0, kA) := Prod.ext (by decide +kernel) rfl
theorem eB : kA.write [100, 47, 101] [] m420 = (0, kB) := Prod.ext (by decide +kernel) rfl
theorem eC : kB.symlink [108] ⟨#[100, 47, 101]⟩ m420 = (0, kC) := Prod.ext (by decide +kernel) rfl
theorem eD : kC.symlink [120] ⟨#[120]⟩ m420 = (0, kD) := Prod.ext (by decide +kernel) rfl
theorem eE : kD.symlink [97] ⟨#[46, 46]⟩ m420 = (0, kE) := Prod.ext (by decide +kernel) rfl
theorem n1 : (0 ≤ newS.next ∧ newS.next ≤ 1099511627776) ∧ (0 ≤ kA.next ∧ kA.next ≤ 1099511627776) ∧ (0 ≤ kB.next ∧ kB.next ≤ 1099511627776) ∧ (0 ≤ kC.next ∧ kC.next ≤ 1099511627776) ∧ (0 ≤ kD.next ∧ kD.next ≤ 1099511627776) := by decide +kernel
theorem rA : resolveU kE.kindS [108] = ([100, 47, 101], 0) := by decide +kernel
theorem rB : resolveU kE.kindS [120] = ([], 15) := by decide +kernel
theorem rC : resolveU kE.kindS [97] = ([], 16) := by decide +kernel
theorem sA : safeU [97, 47, 98] [46, 46, 47, 99] = true := by decide +kernel
theorem sB : safeU [97] [46, 46, 47, 99] = false := by decide +kernel
theorem sC : safeU [97] [99, 47, 46, 46] = false := by decide +kernel
set_option maxRecDepth 100000 in
set_option maxHeartbeats 8000000 in
theorem awake_any (w : World) (hm : ML w) :
    Calls Tryd.prog 6 #[] w fun e w' => e = .returned (.bool true) ∧ Below w.heap.size w w' := by
  go_enter Tryd.func6, Tryd.ntmps6
  go_wp2_with fail
  refine (NewS_any w).mono ?_
  rintro e w1 ⟨t, rfl, hT, hb⟩
  obtain ⟨O, hO, hlt⟩ := hT.lt
  have HA := Lib.hid (show Awk w (w1.alloc (.cells #[.int .i64 420, .int .i64 0, .int .i64 0, .int .i64 0, .int .i64 0] 36)) t 0 w1.heap.size newS from ⟨O, hO.below ((Below.refl _ _).alloc (Nat.le_refl _) _), fun h => by have := (hlt _ h).2; omega, Blk.newA w1 36 #[.int .i64 420, .int .i64 0, .int .i64 0, .int .i64 0, .int .i64 0], fun k hk => (hlt k hk).1, hb.alloc hb.size _⟩)
  clear hT hO hlt hb
  go_wp2_with fail
  generalize w1.alloc (.cells #[.int .i64 420, .int .i64 0, .int .i64 0, .int .i64 0, .int .i64 0] 36) = w2 at *
  generalize w1.heap.size = gm at *
  have A2 := Lib.hid (HA.out.below ((Below.refl w2.heap.size w2).drew))
  clear HA
  obtain ⟨⟨p0, p1⟩, ⟨p2, p3⟩, ⟨p4, p5⟩, ⟨p6, p7⟩, p8, p9⟩ := n1
  refine wp_region_held_drew (S := (fun w' => ∃ c S, Awk w w' t c gm S)) (by kernel_rfl) (⟨_, _, A2.out⟩) (fun hHeld => ?_)
  refine wpAnyH_take (i := 0) (oi := ?oi1) (v := ?v1) ?hi1 ?hs1 ?hf1 ?hr1 ?hQ1 (Or.inl ⟨?hg1, ?hy1⟩) hHeld ?rest1
  case hi1 => simp only [List.getElem?_toArray, List.getElem?_cons_succ, List.getElem?_cons_zero]; rfl
  case hs1 => kernel_rfl
  case hf1 => kernel_rfl
  case hr1 => kernel_rfl
  case hg1 => rfl
  case hy1 => (intro w hSw; first | (go_simp; done) | (go_simp; with_reducible rfl))
  case hQ1 => exact fun _ _ _ h => h
  try simp only [Act.put, List.setIfInBounds_toArray, List.set_cons_zero, List.set_cons_succ]
  refine wpAnyH_take (i := 1) (oi := ?oi2) (v := ?v2) ?hi2 ?hs2 ?hf2 ?hr2 ?hQ2 (Or.inl ⟨?hg2, ?hy2⟩) hHeld ?rest2
  case hi2 => simp only [List.getElem?_toArray, List.getElem?_cons_succ, List.getElem?_cons_zero]; rfl
  case hs2 => kernel_rfl
  case hf2 => kernel_rfl
  case hr2 => kernel_rfl
  case hg2 => rfl
  case hy2 => (intro w hSw; obtain ⟨_, _, hq⟩ := hSw; obtain ⟨x0, x1, x2, x3, x4⟩ := hq.cells; first | (go_simp; done) | (go_simp; with_reducible rfl))
  case hQ2 => exact fun _ _ _ h => h
  try simp only [Act.put, List.setIfInBounds_toArray, List.set_cons_zero, List.set_cons_succ]
  refine wpAnyH_take (i := 3) (oi := ?oi3) (v := ?v3) ?hi3 ?hs3 ?hf3 ?hr3 ?hQ3 (Or.inl ⟨?hg3, ?hy3⟩) hHeld ?rest3
  case hi3 => simp only [List.getElem?_toArray, List.getElem?_cons_succ, List.getElem?_cons_zero]; rfl
  case hs3 => kernel_rfl
  case hf3 => kernel_rfl
  case hr3 => kernel_rfl
  case hg3 => rfl
  case hy3 => (intro w hSw; first | (go_simp; done) | (go_simp; with_reducible rfl))
  case hQ3 => exact fun _ _ _ h => h
  try simp only [Act.put, List.setIfInBounds_toArray, List.set_cons_zero, List.set_cons_succ]
  refine wpAnyH_take (i := 4) (oi := ?oi4) (v := ?v4) ?hi4 ?hs4 ?hf4 ?hr4 ?hQ4 (Or.inl ⟨?hg4, ?hy4⟩) hHeld ?rest4
  case hi4 => simp only [List.getElem?_toArray, List.getElem?_cons_succ, List.getElem?_cons_zero]; rfl
  case hs4 => kernel_rfl
  case hf4 => kernel_rfl
  case hr4 => kernel_rfl
  case hg4 => rfl
  case hy4 => (intro w hSw; obtain ⟨_, _, hq⟩ := hSw; obtain ⟨x0, x1, x2, x3, x4⟩ := hq.cells; first | (go_simp; done) | (go_simp; with_reducible rfl))
  case hQ4 => exact fun _ _ _ h => h
  try simp only [Act.put, List.setIfInBounds_toArray, List.set_cons_zero, List.set_cons_succ]
  refine wpAnyH_take (i := 6) (oi := ?oi5) (v := ?v5) ?hi5 ?hs5 ?hf5 ?hr5 ?hQ5 (Or.inl ⟨?hg5, ?hy5⟩) hHeld ?rest5
  case hi5 => simp only [List.getElem?_toArray, List.getElem?_cons_succ, List.getElem?_cons_zero]; rfl
  case hs5 => kernel_rfl
  case hf5 => kernel_rfl
  case hr5 => kernel_rfl
  case hg5 => rfl
  case hy5 => (intro w hSw; first | (go_simp; done) | (go_simp; with_reducible rfl))
  case hQ5 => exact fun _ _ _ h => h
  try simp only [Act.put, List.setIfInBounds_toArray, List.set_cons_zero, List.set_cons_succ]
  refine wpAnyH_take (i := 7) (oi := ?oi6) (v := ?v6) ?hi6 ?hs6 ?hf6 ?hr6 ?hQ6 (Or.inl ⟨?hg6, ?hy6⟩) hHeld ?rest6
  case hi6 => simp only [List.getElem?_toArray, List.getElem?_cons_succ, List.getElem?_cons_zero]; rfl
  case hs6 => kernel_rfl
  case hf6 => kernel_rfl
  case hr6 => kernel_rfl
  case hg6 => rfl
  case hy6 => (intro w hSw; obtain ⟨_, _, hq⟩ := hSw; obtain ⟨x0, x1, x2, x3, x4⟩ := hq.cells; first | (go_simp; done) | (go_simp; with_reducible rfl))
  case hQ6 => exact fun _ _ _ h => h
  try simp only [Act.put, List.setIfInBounds_toArray, List.set_cons_zero, List.set_cons_succ]
  refine wpAnyH_take (i := 9) (oi := ?oi7) (v := ?v7) ?hi7 ?hs7 ?hf7 ?hr7 ?hQ7 (Or.inl ⟨?hg7, ?hy7⟩) hHeld ?rest7
  case hi7 => simp only [List.getElem?_toArray, List.getElem?_cons_succ, List.getElem?_cons_zero]; rfl
  case hs7 => kernel_rfl
  case hf7 => kernel_rfl
  case hr7 => kernel_rfl
  case hg7 => rfl
  case hy7 => (intro w hSw; first | (go_simp; done) | (go_simp; with_reducible rfl))
  case hQ7 => exact fun _ _ _ h => h
  try simp only [Act.put, List.setIfInBounds_toArray, List.set_cons_zero, List.set_cons_succ]
  refine wpAnyH_take (i := 10) (oi := ?oi8) (v := ?v8) ?hi8 ?hs8 ?hf8 ?hr8 ?hQ8 (Or.inl ⟨?hg8, ?hy8⟩) hHeld ?rest8
  case hi8 => simp only [List.getElem?_toArray, List.getElem?_cons_succ, List.getElem?_cons_zero]; rfl
  case hs8 => kernel_rfl
  case hf8 => kernel_rfl
  case hr8 => kernel_rfl
  case hg8 => rfl
  case hy8 => (intro w hSw; obtain ⟨_, _, hq⟩ := hSw; obtain ⟨x0, x1, x2, x3, x4⟩ := hq.cells; first | (go_simp; done) | (go_simp; with_reducible rfl))
  case hQ8 => exact fun _ _ _ h => h
  try simp only [Act.put, List.setIfInBounds_toArray, List.set_cons_zero, List.set_cons_succ]
  refine wpAnyH_ready (rs := [2]) (by kernel_rfl) (by simp) ?_
  refine AllReadyH.cons (o := ?oi9) ?hi9 (fun K hK => ?_) AllReadyH.nil
  case hi9 => simp only [List.getElem?_toArray, List.getElem?_cons_succ, List.getElem?_cons_zero]; rfl
  go_simp; go_at_call 20; refine (mkdirA w _ t 0 gm newS kA ⟨#[100]⟩ 0 A2.out eA (by decide) p0 p1 (by decide)).mono ?_; rintro e w3 ⟨rfl, h3⟩; go_wp2_with fail
  refine hK.out _ _ (⟨_, _, h3⟩) (fun hHeld2 => ?_)
  clear hK K hHeld
  have hHeld := hHeld2
  clear hHeld2
  try simp only [Act.put, List.setIfInBounds_toArray, List.set_cons_zero, List.set_cons_succ]
  refine wpAnyH_ready (rs := [5]) (by kernel_rfl) (by simp) ?_
  refine AllReadyH.cons (o := ?oi10) ?hi10 (fun K hK => ?_) AllReadyH.nil
  case hi10 => simp only [List.getElem?_toArray, List.getElem?_cons_succ, List.getElem?_cons_zero]; rfl
  go_simp; go_at_call 21; refine (writeA w _ t 1 gm kA kB ⟨#[100, 47, 101]⟩ 0 h3 eB (by decide) p2 p3 (by decide)).mono ?_; rintro e w4 ⟨rfl, h4⟩; go_wp2_with fail
  refine hK.out _ _ (⟨_, _, h4⟩) (fun hHeld2 => ?_)
  clear hK K hHeld
  have hHeld := hHeld2
  clear hHeld2
  try simp only [Act.put, List.setIfInBounds_toArray, List.set_cons_zero, List.set_cons_succ]
  refine wpAnyH_ready (rs := [8]) (by kernel_rfl) (by simp) ?_
  refine AllReadyH.cons (o := ?oi11) ?hi11 (fun K hK => ?_) AllReadyH.nil
  case hi11 => simp only [List.getElem?_toArray, List.getElem?_cons_succ, List.getElem?_cons_zero]; rfl
  go_simp; go_at_call 22; refine (symlinkA w _ t 2 gm kB kC ⟨#[108]⟩ ⟨#[100, 47, 101]⟩ 0 h4 eC (by decide) p4 p5 (by decide)).mono ?_; rintro e w5 ⟨rfl, h5⟩; go_wp2_with fail
  refine hK.out _ _ (⟨_, _, h5⟩) (fun hHeld2 => ?_)
  clear hK K hHeld
  have hHeld := hHeld2
  clear hHeld2
  try simp only [Act.put, List.setIfInBounds_toArray, List.set_cons_zero, List.set_cons_succ]
  refine wpAnyH_ready (rs := [11]) (by kernel_rfl) (by simp) ?_
  refine AllReadyH.cons (o := ?oi12) ?hi12 (fun K hK => ?_) AllReadyH.nil
  case hi12 => simp only [List.getElem?_toArray, List.getElem?_cons_succ, List.getElem?_cons_zero]; rfl
  go_simp; go_at_call 22; refine (symlinkA w _ t 3 gm kC kD ⟨#[120]⟩ ⟨#[120]⟩ 0 h5 eD (by decide) p6 p7 (by decide)).mono ?_; rintro e w6 ⟨rfl, h6⟩; go_wp2_with fail
  refine hK.out _ _ (⟨_, _, h6⟩) (fun hHeld2 => ?_)
  clear hK K hHeld
  have hHeld := hHeld2
  clear hHeld2
  try simp only [Act.put, List.setIfInBounds_toArray, List.set_cons_zero, List.set_cons_succ]
  refine wpAnyH_take (i := 12) (oi := ?oi13) (v := ?v13) ?hi13 ?hs13 ?hf13 ?hr13 ?hQ13 (Or.inl ⟨?hg13, ?hy13⟩) hHeld ?rest13
  case hi13 => simp only [List.getElem?_toArray, List.getElem?_cons_succ, List.getElem?_cons_zero]; rfl
  case hs13 => kernel_rfl
  case hf13 => kernel_rfl
  case hr13 => kernel_rfl
  case hg13 => rfl
  case hy13 => (intro w hSw; first | (go_simp; done) | (go_simp; with_reducible rfl))
  case hQ13 => exact fun _ _ _ h => h
  try simp only [Act.put, List.setIfInBounds_toArray, List.set_cons_zero, List.set_cons_succ]
  refine wpAnyH_take (i := 13) (oi := ?oi14) (v := ?v14) ?hi14 ?hs14 ?hf14 ?hr14 ?hQ14 (Or.inl ⟨?hg14, ?hy14⟩) hHeld ?rest14
  case hi14 => simp only [List.getElem?_toArray, List.getElem?_cons_succ, List.getElem?_cons_zero]; rfl
  case hs14 => kernel_rfl
  case hf14 => kernel_rfl
  case hr14 => kernel_rfl
  case hg14 => rfl
  case hy14 => (intro w hSw; first | (go_simp; done) | (go_simp; with_reducible rfl))
  case hQ14 => exact fun _ _ _ h => h
  try simp only [Act.put, List.setIfInBounds_toArray, List.set_cons_zero, List.set_cons_succ]
  refine wpAnyH_take (i := 14) (oi := ?oi15) (v := ?v15) ?hi15 ?hs15 ?hf15 ?hr15 ?hQ15 (Or.inl ⟨?hg15, ?hy15⟩) hHeld ?rest15
  case hi15 => simp only [List.getElem?_toArray, List.getElem?_cons_succ, List.getElem?_cons_zero]; rfl
  case hs15 => kernel_rfl
  case hf15 => kernel_rfl
  case hr15 => kernel_rfl
  case hg15 => rfl
  case hy15 => (intro w hSw; first | (go_simp; done) | (go_simp; with_reducible rfl))
  case hQ15 => exact fun _ _ _ h => h
  try simp only [Act.put, List.setIfInBounds_toArray, List.set_cons_zero, List.set_cons_succ]
  refine wpAnyH_take (i := 15) (oi := ?oi16) (v := ?v16) ?hi16 ?hs16 ?hf16 ?hr16 ?hQ16 (Or.inl ⟨?hg16, ?hy16⟩) hHeld ?rest16
  case hi16 => simp only [List.getElem?_toArray, List.getElem?_cons_succ, List.getElem?_cons_zero]; rfl
  case hs16 => kernel_rfl
  case hf16 => kernel_rfl
  case hr16 => kernel_rfl
  case hg16 => rfl
  case hy16 => (intro w hSw; first | (go_simp; done) | (go_simp; with_reducible rfl))
  case hQ16 => exact fun _ _ _ h => h
  try simp only [Act.put, List.setIfInBounds_toArray, List.set_cons_zero, List.set_cons_succ]
  refine wpAnyH_done (by kernel_rfl) ?_ _
  clear hHeld
  have A6 := Lib.hid h6
  clear h3 h4 h5 h6 A2
  obtain ⟨x0, x1, x2, x3, x4⟩ := A6.out.cells
  go_wp2_with fail
  refine (symlinkA w w6 t 4 gm kD kE ⟨#[97]⟩ ⟨#[46, 46]⟩ 0 A6.out eE (by decide) p8 p9 (by decide)).mono ?_
  rintro e w7 ⟨rfl, h7⟩
  have A7 := Lib.hid h7
  clear h7 A6 x0 x1 x2 x3 x4
  go_wp2_with fail
  refine (resolveA w w7 t 5 gm kE ⟨#[108]⟩ [100, 47, 101] 0 A7.out rA (by decide)).mono ?_
  rintro e w8 ⟨rfl, h8⟩
  have A8 := Lib.hid h8
  clear h8 A7
  go_wp2_with fail
  refine (resolveA w w8 t 5 gm kE ⟨#[120]⟩ [] 15 A8.out rB (by decide)).mono ?_
  rintro e w9 ⟨rfl, h9⟩
  have A9 := Lib.hid h9
  clear h9 A8
  go_wp2_with fail
  refine (resolveA w w9 t 5 gm kE ⟨#[97]⟩ [] 16 A9.out rC (by decide)).mono ?_
  rintro e w10 ⟨rfl, h10⟩
  have B10 := Lib.hid (show Below w.heap.size w w10 by obtain ⟨_, _, _, _, _, h⟩ := h10; exact h)
  have M10 := Lib.hid (hm.below B10.out)
  clear h10 A9
  go_wp2_with fail
  refine (safe_any ⟨#[97, 47, 98]⟩ ⟨#[46, 46, 47, 99]⟩ w10 (by decide) (by decide) M10.out).mono ?_
  rintro e w11 ⟨rfl, hb11⟩
  rw [show safeU (⟨#[97, 47, 98]⟩ : ByteArray).data.toList (⟨#[46, 46, 47, 99]⟩ : ByteArray).data.toList = true from sA]
  have B11 := Lib.hid (B10.out.trans (hb11.mono B10.out.size))
  have M11 := Lib.hid (M10.out.below hb11)
  clear hb11 B10 M10
  go_wp2_with fail
  refine (safe_any ⟨#[97]⟩ ⟨#[46, 46, 47, 99]⟩ w11 (by decide) (by decide) M11.out).mono ?_
  rintro e w12 ⟨rfl, hb12⟩
  rw [show safeU (⟨#[97]⟩ : ByteArray).data.toList (⟨#[46, 46, 47, 99]⟩ : ByteArray).data.toList = false from sB]
  have B12 := Lib.hid (B11.out.trans (hb12.mono B11.out.size))
  have M12 := Lib.hid (M11.out.below hb12)
  clear hb12 B11 M11
  go_wp2_with fail
  refine (safe_any ⟨#[97]⟩ ⟨#[99, 47, 46, 46]⟩ w12 (by decide) (by decide) M12.out).mono ?_
  rintro e w13 ⟨rfl, hb13⟩
  rw [show safeU (⟨#[97]⟩ : ByteArray).data.toList (⟨#[99, 47, 46, 46]⟩ : ByteArray).data.toList = false from sC]
  have B13 := Lib.hid (B12.out.trans (hb13.mono B12.out.size))
  clear hb13 B12 M12
  go_wp2_with fail
  go_ret
  exact ⟨rfl, B13.out⟩
end Go.Proofs.YtlbbehfbjbbckaaDoor

/-! The laws LinkTexts, LinkBack: what they compute. -/
set_option linter.unusedVariables false
set_option linter.unusedSimpArgs false
namespace Go.Proofs.YtlbbehfbjbbckaaDoor
open Go.RowKit
attribute [local go_sem] str_toList

set_option maxRecDepth 100000 in
set_option maxHeartbeats 8000000 in
theorem linkTexts_any (p tg : ByteArray) (w : World) (hm : ML w) :
    Calls Tryd.prog 3 #[.string p, .string tg] w fun e w' => e = .returned (.bool true) ∧ Below w.heap.size w w' := by
  have HM := Lib.hid hm
  clear hm
  rcases Nat.lt_or_ge 1000 p.size with h | h
  · have e1 : (1000 : Int) < (p.size : Int) := by omega
    have e2 : decide ((1000 : Int) < (p.size : Int)) = true := decide_eq_true e1
    have e3 : decide (1000 < p.size) = true := decide_eq_true h
    clear h
    go_enter Tryd.func3, Tryd.ntmps3
    go_wp2_with fail
    refine (awake_any w HM.out).mono ?_
    rintro e w1 ⟨rfl, hb1⟩
    have HB := Lib.hid hb1
    clear hb1
    go_wp2_with fail
    go_ret
    exact ⟨rfl, HB.out⟩
  have e1 : ¬ (1000 : Int) < (p.size : Int) := by omega
  have e2 : decide ((1000 : Int) < (p.size : Int)) = false := decide_eq_false e1
  have e3 : decide (1000 < p.size) = false := decide_eq_false (by omega)
  rcases Nat.lt_or_ge 1000 tg.size with h' | h'
  · have e1' : (1000 : Int) < (tg.size : Int) := by omega
    have e2' : decide ((1000 : Int) < (tg.size : Int)) = true := decide_eq_true e1'
    have e3' : decide (1000 < tg.size) = true := decide_eq_true h'
    clear h h'
    go_enter Tryd.func3, Tryd.ntmps3
    go_wp2_with fail
    refine (awake_any w HM.out).mono ?_
    rintro e w1 ⟨rfl, hb1⟩
    have HB := Lib.hid hb1
    clear hb1
    go_wp2_with fail
    go_ret
    exact ⟨rfl, HB.out⟩
  have e1' : ¬ (1000 : Int) < (tg.size : Int) := by omega
  have e2' : decide ((1000 : Int) < (tg.size : Int)) = false := decide_eq_false e1'
  have e3' : decide (1000 < tg.size) = false := decide_eq_false (by omega)
  have HP := Lib.hid h
  have HT := Lib.hid h'
  clear h h'
  have C1 := Lib.hid (plain_any tg w)
  have C2 := Lib.hid (refPlain_any tg w (by have := HT.out; omega))
  have C3 := Lib.hid (fun w' h => safe_any p tg w' (by have := HP.out; omega) (by have := HT.out; omega) h)
  have C4 := Lib.hid (fun w' => refSafe_any p tg w' (by have := HP.out; omega) (by have := HT.out; omega))
  have C5 := Lib.hid (fun w' => munge_any tg w' (by have := HT.out; omega))
  have C6 := Lib.hid (fun w' => refMunge_any tg w' (by have := HT.out; omega))
  generalize safeU p.data.toList tg.data.toList = sb at *
  generalize plainU tg.data.toList = pb at *
  generalize harm ++ tg.data.toList = mb at *
  obtain ⟨ps, pk⟩ := pb
  go_enter Tryd.func3, Tryd.ntmps3
  go_wp2_with fail
  refine C1.out.mono ?_
  rintro e w' ⟨rfl, rfl⟩
  go_wp2_with fail
  refine C2.out.mono ?_
  rintro e w' ⟨rfl, rfl⟩
  go_wp2_with fail
  refine (C3.out _ HM.out).mono ?_
  rintro e w1 ⟨rfl, hb1⟩
  have B1 := Lib.hid hb1
  have M1 := Lib.hid (HM.out.below hb1)
  clear hb1
  go_wp2_with fail
  refine (C4.out _).mono ?_
  rintro e w2 ⟨rfl, hb2⟩
  have B2 := Lib.hid (B1.out.trans (hb2.mono B1.out.size))
  have M2 := Lib.hid (M1.out.below hb2)
  clear hb2 B1 M1
  go_wp2_with fail
  refine (C5.out _).mono ?_
  rintro e w' ⟨rfl, rfl⟩
  go_wp2_with fail
  refine (C6.out _).mono ?_
  rintro e w' ⟨rfl, rfl⟩
  go_wp2_with fail
  refine (awake_any _ M2.out).mono ?_
  rintro e w3 ⟨rfl, hb3⟩
  have B3 := Lib.hid (B2.out.trans (hb3.mono B2.out.size))
  clear hb3
  go_wp2_with fail
  go_ret
  exact ⟨rfl, B3.out⟩
theorem plain_harm (l : List UInt8) : plainU (harm ++ l) = (l, true) := by
  unfold plainU
  have : harm.isPrefixOf (harm ++ l) = true := List.isPrefixOf_iff_prefix.2 (List.prefix_append ..)
  rw [this]; rfl
theorem safe_harm (p l : List UInt8) : safeU p (harm ++ l) = false := if_pos (.inr (.inr (.inr rfl)))
theorem plain_back {l y : List UInt8} (h : plainU l = (y, true)) : harm ++ y = l := by
  unfold plainU at h
  cases hq : harm.isPrefixOf l with
  | false => rw [hq] at h; simp at h
  | true =>
    rw [hq] at h
    obtain ⟨z, rfl⟩ := List.isPrefixOf_iff_prefix.1 hq
    simp only [if_true, Prod.mk.injEq, and_true] at h
    rw [← h]; rfl
set_option maxRecDepth 100000 in
set_option maxHeartbeats 8000000 in
theorem linkBack_any (p tg : ByteArray) (w : World) (hm : ML w) :
    Calls Tryd.prog 4 #[.string p, .string tg] w fun e w' => e = .returned (.bool true) ∧ Below w.heap.size w w' := by
  have HM := Lib.hid hm
  clear hm
  rcases Nat.lt_or_ge 1000 p.size with h | h
  · have e1 : (1000 : Int) < (p.size : Int) := by omega
    have e2 : decide ((1000 : Int) < (p.size : Int)) = true := decide_eq_true e1
    have e3 : decide (1000 < p.size) = true := decide_eq_true h
    clear h
    go_enter Tryd.func4, Tryd.ntmps4
    go_wp2_with fail
    refine (awake_any w HM.out).mono ?_
    rintro e w1 ⟨rfl, hb1⟩
    have HB := Lib.hid hb1
    clear hb1
    go_wp2_with fail
    go_ret
    exact ⟨rfl, HB.out⟩
  have e1 : ¬ (1000 : Int) < (p.size : Int) := by omega
  have e2 : decide ((1000 : Int) < (p.size : Int)) = false := decide_eq_false e1
  have e3 : decide (1000 < p.size) = false := decide_eq_false (by omega)
  rcases Nat.lt_or_ge 1000 tg.size with h' | h'
  · have e1' : (1000 : Int) < (tg.size : Int) := by omega
    have e2' : decide ((1000 : Int) < (tg.size : Int)) = true := decide_eq_true e1'
    have e3' : decide (1000 < tg.size) = true := decide_eq_true h'
    clear h h'
    go_enter Tryd.func4, Tryd.ntmps4
    go_wp2_with fail
    refine (awake_any w HM.out).mono ?_
    rintro e w1 ⟨rfl, hb1⟩
    have HB := Lib.hid hb1
    clear hb1
    go_wp2_with fail
    go_ret
    exact ⟨rfl, HB.out⟩
  have e1' : ¬ (1000 : Int) < (tg.size : Int) := by omega
  have e2' : decide ((1000 : Int) < (tg.size : Int)) = false := decide_eq_false e1'
  have e3' : decide (1000 < tg.size) = false := decide_eq_false (by omega)
  have HP := Lib.hid h
  have HT := Lib.hid h'
  clear h h'
  have hst : (str (harm ++ tg.data.toList)).data.toList = harm ++ tg.data.toList := by simp [str]
  have hsz : (str (harm ++ tg.data.toList)).size ≤ 1009 := by
    rw [size_toList, List.length_append]
    have h1 : tg.data.toList.length = tg.size := Array.length_toList
    have h2 : harm.length = 9 := rfl
    have := HT.out
    omega
  have C0 := Lib.hid (munge_any tg w (by have := HT.out; omega))
  have C1 := Lib.hid (fun w' => plain_any (str (harm ++ tg.data.toList)) w')
  have C2 := Lib.hid (fun w' => plain_any tg w')
  have C3 := Lib.hid (fun w' h => safe_any p (str (harm ++ tg.data.toList)) w' (by have := HP.out; omega) (by omega) h)
  have C4 := Lib.hid (fun w' h => safe_any p tg w' (by have := HP.out; omega) (by have := HT.out; omega) h)
  rw [hst, plain_harm] at C1
  rw [hst, safe_harm] at C3
  have hstr : str tg.data.toList = tg := rfl
  rw [hstr] at C1
  have HPB := Lib.hid (fun y h => plain_back (l := tg.data.toList) (y := y) h)
  have HSF := Lib.hid (fun y (h : plainU tg.data.toList = (y, true)) => show safeU p.data.toList tg.data.toList = false by rw [← plain_back h]; exact safe_harm _ _)
  have HPL := Lib.hid (fun y (h : plainU tg.data.toList = (y, true)) => show y.length ≤ 1000 by
    have h0 := congrArg List.length (plain_back h)
    rw [List.length_append] at h0
    have h1 : tg.data.toList.length = tg.size := Array.length_toList
    have := HT.out
    omega)
  generalize str (harm ++ tg.data.toList) = ms at *
  clear hst hstr
  generalize plainU tg.data.toList = pb at *
  generalize hsb : safeU p.data.toList tg.data.toList = sb at *
  obtain ⟨y, yk⟩ := pb
  go_enter Tryd.func4, Tryd.ntmps4
  go_wp2_with fail
  refine C0.out.mono ?_
  rintro e w' ⟨rfl, rfl⟩
  go_wp2_with fail
  refine (C1.out _).mono ?_
  rintro e w' ⟨rfl, rfl⟩
  go_wp2_with fail
  refine (C2.out _).mono ?_
  rintro e w' ⟨rfl, rfl⟩
  go_wp2_with fail
  refine (C3.out _ HM.out).mono ?_
  rintro e w1 ⟨rfl, hb1⟩
  have B1 := Lib.hid hb1
  have M1 := Lib.hid (HM.out.below hb1)
  clear hb1
  cases yk with
  | false =>
    go_wp2_with fail
    refine (awake_any _ M1.out).mono ?_
    rintro e w3 ⟨rfl, hb3⟩
    have B3 := Lib.hid (B1.out.trans (hb3.mono B1.out.size))
    clear hb3
    go_wp2_with fail
    go_ret
    exact ⟨rfl, B3.out⟩
  | true =>
    have K1 := Lib.hid (HPB.out y rfl)
    have K2 := Lib.hid (HSF.out y rfl)
    have K3 := HPL.out y rfl
    subst hsb
    rw [K2.out] at C4
    have C5 := Lib.hid (fun w' => munge_any (str y) w' (by rw [size_toList]; omega))
    have hys : (str y).data.toList = y := by simp [str]
    rw [hys, K1.out] at C5
    have hstr : str tg.data.toList = tg := rfl
    rw [hstr] at C5
    clear hys hstr
    go_wp2_with fail
    refine (C5.out _).mono ?_
    rintro e w' ⟨rfl, rfl⟩
    go_wp2_with fail
    refine (C4.out _ M1.out).mono ?_
    rintro e w2 ⟨rfl, hb2⟩
    have B2 := Lib.hid (B1.out.trans (hb2.mono B1.out.size))
    have M2 := Lib.hid (M1.out.below hb2)
    clear hb2 B1 M1
    go_wp2_with fail
    refine (awake_any _ M2.out).mono ?_
    rintro e w3 ⟨rfl, hb3⟩
    have B3 := Lib.hid (B2.out.trans (hb3.mono B2.out.size))
    clear hb3
    go_wp2_with fail
    go_ret
    exact ⟨rfl, B3.out⟩
end Go.Proofs.YtlbbehfbjbbckaaDoor

/-! What the rows of this seat share: a world for the witness. -/
set_option linter.unusedVariables false
set_option linter.unusedSimpArgs false
namespace Go.Proofs.YtlbbehfbjbbckaaDoor
open Go.ChangeShapes Go.WideShapes Go.ChangeAt Go.RowKit

theorem own : ownKnob Tryd.prog.godebug = none := by kernel_rfl
theorem laidOut : laidOutB Tryd.prog = true := by kernel_rfl
theorem ml_shaped {W : World} (h : W.ShapedOpen Tryd.prog) : ML W :=
  Go.Proofs.cell_of_shapedOpen_int (zero := #[.int .i64 0]) (t := 3) h (of_decide_eq_true (by kernel_rfl)) (by kernel_rfl) rfl (by kernel_rfl) (by kernel_rfl) Tryd.underlying3
def litV : DataW Unit → Value
  | .lit (.int k x) => .int k x
  | _ => undef
def flatV : DataW Unit → List Value
  | .agg l => l.flatMap fun d => match d with | .agg m => m.map litV | d => [litV d]
  | _ => []
def lay1 (vs : List Value) : Obj → Obj
  | .cells _ t frozen => .cells vs.toArray t frozen
  | o => o
/-- A world for the witness: the settled one, the two tables holding what the library's text lays. -/
noncomputable def laidWorld (os : Os) : World :=
  { World.holding Tryd.prog os ⟨#[], #[], []⟩ with heap := ((World.holding Tryd.prog os ⟨#[], #[], []⟩).heap.modify 1 (lay1 (flatV Rows.laid_unicode_utf8_first))).modify 2 (lay1 (flatV Rows.laid_unicode_utf8_acceptRanges)) }
end Go.Proofs.YtlbbehfbjbbckaaDoor

/-! Another Meta: the program's Set. -/
set_option linter.unusedVariables false
set_option linter.unusedSimpArgs false
namespace Go.Proofs.YtlbbehfbjbbckaaDoor
open Go.RowKit

theorem heldT_set2 {w : World} {t k0 : Nat} {N : Nat → Option Nd} {x x' : Nd} (hk : N k0 = some x) (e1 : x'.kb = x.kb) (hd : ∀ a, x'.dA = some a → w.heap.size ≤ a.block ∨ x.dA = some a) : ∀ k, k = t ∨ heldT (setN N k0 x') k → (k = t ∨ heldT N k) ∨ w.heap.size ≤ k := by
  rintro k (rfl | ⟨m, hi⟩ | ⟨i, m, a, hi, ha, rfl⟩ | ⟨i, m, hi, hkk⟩)
  · exact .inl (.inl rfl)
  · rcases setN_some hi with ⟨rfl, rfl⟩ | ⟨_, hm⟩
    · exact .inl (.inr (.inl ⟨x, hk⟩))
    · exact .inl (.inr (.inl ⟨m, hm⟩))
  · rcases setN_some hi with ⟨rfl, rfl⟩ | ⟨_, hm⟩
    · rcases hd a ha with h | h
      · exact .inr h
      · exact .inl (.inr (.inr (.inl ⟨i, x, a, hk, h, rfl⟩)))
    · exact .inl (.inr (.inr (.inl ⟨i, m, a, hm, ha, rfl⟩)))
  · rcases setN_some hi with ⟨rfl, rfl⟩ | ⟨_, hm⟩
    · exact .inl (.inr (.inr (.inr ⟨i, x, hk, by rw [← e1]; exact hkk⟩)))
    · exact .inl (.inr (.inr (.inr ⟨i, m, hm, hkk⟩)))
theorem act_set {w w' : World} {t top c k : Nat} {S : St} {N : Nat → Option Nd} {x x' : Nd} {O : Nat → Prop} (hT : TreeAt w' t top S.next c (setN N k x')) (hR : Rep N top S) (ho : OkS S) (hO : ∀ k, k = t ∨ heldT N k → O k) (hk : N k = some x)
    (e1 : x'.kids = x.kids) (e0 : x'.kb = x.kb) (e2 : x'.ino = x.ino) (e3 : x'.links = x.links) (e4 : x'.kind = x.kind) (e5 : x'.target = x.target) (e6 : x'.data.length ≤ 65536) (hd : ∀ a, x'.dA = some a → w.heap.size ≤ a.block ∨ x.dA = some a) (hw : Only (ownT t N) w w') :
    ActPost w w' t c { S with th := setT S.th x.ino (thN x') } O := by
  have hth : S.th x.ino = thN x := hR.info k x hk
  have ht' : (thN x').target.size ≤ 200 ∧ (thN x').data.length ≤ 65536 := by
    rw [show (thN x').target = x.target from e5]; exact ⟨hR.tgt ho k x hk, e6⟩
  exact ⟨fun j => O j ∨ w.heap.size ≤ j, ⟨top, _, hT.mono (Nat.le_succ c), hR.set hk e1 e2 e3 e4, ho.set _ _ (by rw [hth]; exact e4) ht', fun j hj => (heldT_set2 hk e0 hd j hj).imp (hO j) id⟩, hw.mono (fun j _ hj => hO j (ownT_held hj)), fun j hj => hj⟩
/-- What there answers, over the plain state. -/
structure ThereS (N : Nat → Option Nd) (S : St) (l : Option Nat × Option Nat × Int) (r : Option Int × Int) : Prop where
  err : l.2.2 = r.2
  found : r.2 = 0 → ∃ k x, l.1 = some k ∧ N k = some x ∧ r.1 = some x.ino
  node : ∀ k, l.1 = some k → ∃ x, N k = some x ∧ r.1 = some x.ino
theorem Rep.thereR {N : Nat → Option Nd} {top : Nat} {S : St} (h : Rep N top S) (ho : OkS S) (p : List UInt8) : ThereS N S (thereU (lookN N top p)) (thereS (S.look p)) := by
  obtain ⟨h1, h2⟩ := h.there ho p
  have hn : ∀ k, (thereU (lookN N top p)).1 = some k → ∃ x, N k = some x ∧ (thereS (S.look p)).1 = some x.ino := fun k hk => by
    rw [hk] at h1; exact h1.some
  refine ⟨h2, fun he => ?_, hn⟩
  cases hl : (thereU (lookN N top p)).1 with
  | some k =>
    obtain ⟨x, e1, e2⟩ := hn k hl
    exact ⟨k, x, rfl, e1, e2⟩
  | none =>
    rw [hl] at h1
    have h3 := (h1.none_iff).1 rfl
    exfalso
    unfold thereS at h3 he
    split at h3
    · rename_i hc; rw [if_pos hc] at he; simp at he
    · rename_i hc; rw [if_neg hc] at he; exact hc ⟨he, h3⟩
theorem set_err (S : St) (p : List UInt8) (m : Mt) (h : (S.set p m).1 ≠ 0) : (S.set p m).2 = S := by
  unfold St.set at h ⊢
  by_cases a : mayU p m ≠ 0
  · rw [if_pos a]
  rw [if_neg a] at h ⊢
  generalize thereS (S.look p) = r at *
  obtain ⟨o, e⟩ := r
  cases o with
  | none => rfl
  | some i =>
    simp only at h ⊢
    by_cases b : e ≠ 0
    · rw [if_pos b]
    · rw [if_neg b] at h; exact absurd rfl h
theorem meta_blk {w : World} {k : Nat} {x : Nd} (h : Blk w k 68 (encN x)) (m : Mt) :
    Blk (((((w.setCell ⟨k, 4, none⟩ (.int .i64 m.m0)).setCell ⟨k, 5, none⟩ (.int .i64 m.m1)).setCell ⟨k, 6, none⟩ (.int .i64 m.m2)).setCell ⟨k, 7, none⟩ (.int .i64 m.m3)).setCell ⟨k, 8, none⟩ (.int .i64 m.m4)) k 68 (encN { x with m0 := m.m0, m1 := m.m1, m2 := m.m2, m3 := m.m3, m4 := m.m4 }) ∧
    Only (fun j => j = k) w (((((w.setCell ⟨k, 4, none⟩ (.int .i64 m.m0)).setCell ⟨k, 5, none⟩ (.int .i64 m.m1)).setCell ⟨k, 6, none⟩ (.int .i64 m.m2)).setCell ⟨k, 7, none⟩ (.int .i64 m.m3)).setCell ⟨k, 8, none⟩ (.int .i64 m.m4)) ∧
    ∀ j, j ≠ k → (((((w.setCell ⟨k, 4, none⟩ (.int .i64 m.m0)).setCell ⟨k, 5, none⟩ (.int .i64 m.m1)).setCell ⟨k, 6, none⟩ (.int .i64 m.m2)).setCell ⟨k, 7, none⟩ (.int .i64 m.m3)).setCell ⟨k, 8, none⟩ (.int .i64 m.m4)).heap[j]? = w.heap[j]? := by
  refine ⟨((((h.set 4 _).set 5 _).set 6 _).set 7 _).set 8 _, (((((Only.set (P := fun j => j = k) w ⟨k, 4, none⟩ _ rfl).trans (Only.set _ ⟨k, 5, none⟩ _ rfl)).trans (Only.set _ ⟨k, 6, none⟩ _ rfl)).trans (Only.set _ ⟨k, 7, none⟩ _ rfl)).trans (Only.set _ ⟨k, 8, none⟩ _ rfl)), fun j hj => ?_⟩
  rw [Below.heap_setCell _ _ _ _ hj, Below.heap_setCell _ _ _ _ hj, Below.heap_setCell _ _ _ _ hj, Below.heap_setCell _ _ _ _ hj, Below.heap_setCell _ _ _ _ hj]
set_option maxRecDepth 100000 in
set_option maxHeartbeats 8000000 in
theorem SetS_any (t c : Nat) (S : St) (O : Nat → Prop) (p : ByteArray) (m : Mt) (w : World) (h : TreeS w t c S O) (hp : p.size ≤ 2097152) :
    Calls Tryd.prog 49 #[.pointer (some ⟨t, 0, none⟩), .string p, aggM m] w fun e w' => e = .returned (.int .i64 (S.set p.data.toList m).1) ∧ ActPost w w' t c (S.set p.data.toList m).2 O := by
  have HS := Lib.hid h
  obtain ⟨top, N, hT, hR, ho, hO⟩ := h
  have HM := Lib.hid (fun w => may_any t p m w hp)
  have HF := Lib.hid (fun w (h : TreeAt w t top S.next c N) => there_any t top c S.next N p w h hp)
  have HTH := Lib.hid (hR.thereR ho p.data.toList)
  have HT := Lib.hid hT
  have HERR := Lib.hid (set_err S p.data.toList m)
  have HACT := Lib.hid (fun w' k x x' (hT' : TreeAt w' t top S.next c (setN N k x')) => act_set (w := w) (w' := w') (x := x) hT' hR ho hO)
  obtain ⟨X, hX⟩ : ∃ X, S.set p.data.toList m = X := ⟨_, rfl⟩
  have HX : Hid ((if mayU p.data.toList m ≠ 0 then (mayU p.data.toList m, S) else match thereS (S.look p.data.toList) with
    | (some i, e) => if e ≠ 0 then (e, S) else (0, { S with th := setT S.th i { S.th i with mt := m } })
    | (none, e) => (e, S)) = X) := Lib.hid hX
  have HIN := Lib.hid (fun k x (hk : N k = some x) => hR.info k x hk)
  have HDT := Lib.hid (hR.dat ho)
  rw [hX] at HERR ⊢
  clear hX hT hR ho hO
  generalize hmay : mayU p.data.toList m = er at *
  obtain ⟨r, hr⟩ : ∃ r, thereS (S.look p.data.toList) = r := ⟨_, rfl⟩
  obtain ⟨l, hl⟩ : ∃ l, thereU (lookN N top p.data.toList) = l := ⟨_, rfl⟩
  rw [hr] at HX HTH
  rw [hl] at HF HTH
  clear hr hl hmay
  obtain ⟨a, b, cc, dd, f⟩ := m
  have b0 := Blk.new w 36 [.int .i64 a, .int .i64 b, .int .i64 cc, .int .i64 dd, .int .i64 f]
  have hb0 := (Below.refl w.heap.size w).alloc (Nat.le_refl _) (.cells #[.int .i64 a, .int .i64 b, .int .i64 cc, .int .i64 dd, .int .i64 f] 36)
  have B0 := Lib.hid b0
  have HB0 := Lib.hid hb0
  have T0 := Lib.hid (HT.out.below hb0)
  clear b0 hb0 HT
  unfold aggM at *
  obtain ⟨x0, x1, x2, x3, x4⟩ := meta_cells B0.out
  go_enter Tryd.func49, Tryd.ntmps49
  go_wp2_with fail
  generalize hwa : w.alloc _ = wa at *
  generalize hbm : w.heap.size = bm at *
  refine (HM.out _).mono ?_
  rintro e w1 ⟨rfl, hb1⟩
  have B1 := Lib.hid (B0.out.below hb1)
  have HB1 := Lib.hid (HB0.out.trans (hb1.mono (by rw [← hbm]; exact HB0.out.size)))
  have T1 := Lib.hid (T0.out.below hb1)
  clear hb1 B0 HB0 T0 HM x0 x1 x2 x3 x4
  rcases Classical.em (er = 0) with he | he
  · subst he
    go_wp2_with fail
    refine (HF.out _ T1.out).mono ?_
    rintro e w2 ⟨rfl, hb2⟩
    have B2 := Lib.hid (B1.out.below hb2)
    have HB2 := Lib.hid (HB1.out.trans (hb2.mono (by rw [← hbm]; exact HB1.out.size)))
    have T2 := Lib.hid (T1.out.below hb2)
    clear hb2 HF B1 HB1 T1
    obtain ⟨lo, ld, le⟩ := l
    obtain ⟨ro, re⟩ := r
    obtain rfl : le = re := HTH.out.err
    unfold tupL
    rcases Classical.em (le = 0) with h0 | h0
    · subst h0
      obtain ⟨k, x, e1, hk, e2⟩ := HTH.out.found rfl
      obtain rfl : lo = some k := e1
      obtain rfl : ro = some x.ino := e2
      have K := Lib.hid (show X = (0, { S with th := setT S.th x.ino { S.th x.ino with mt := ⟨a, b, cc, dd, f⟩ } }) from HX.out.symm)
      have HK := Lib.hid hk
      have y0 := T2.out.node k x hk
      have hkb : bm ≠ k := B2.out.ne y0 (by decide)
      obtain ⟨x0, x1, x2, x3, x4⟩ := meta_cells B2.out
      have v4 := y0.cell 4
      have v5 := y0.cell 5
      have v6 := y0.cell 6
      have v7 := y0.cell 7
      have v8 := y0.cell 8
      have g4 := y0.frozen 4
      have g5 := y0.frozen 5
      have g6 := y0.frozen 6
      have g7 := y0.frozen 7
      have g8 := y0.frozen 8
      simp only [encN, List.getElem?_cons_zero, List.getElem?_cons_succ] at v4 v5 v6 v7 v8
      have Y0 := Lib.hid y0
      rw [show ptrO (some k) = .pointer (some ⟨k, 0, none⟩) from rfl]
      clear y0 hk HX HTH
      go_wp2_with fail
      go_ret
      obtain ⟨hB9, hO9, hh9⟩ := meta_blk Y0.out ⟨a, b, cc, dd, f⟩
      have T9 := T2.out.reset HK.out { x with m0 := a, m1 := b, m2 := cc, m3 := dd, m4 := f } rfl rfl rfl hB9 (BytesAt.only (T2.out.data k x HK.out) hh9 Y0.out) (T2.out.room k x HK.out) (fun j _ hj => hh9 j hj)
      have O9 : Only (ownT t N) w _ := Only.trans (Only.of (by rw [hbm]; exact HB2.out)) (hO9.mono (fun j _ hj => by subst hj; exact .inr (.inl ⟨x, HK.out⟩)))
      have hA := HACT.out _ k x _ T9 HK.out rfl rfl rfl rfl rfl rfl (HDT.out k x HK.out) (fun a ha => .inr ha) O9
      rw [K.out]
      refine ⟨rfl, ?_⟩
      rw [HIN.out k x HK.out]
      exact hA
    · have K := Lib.hid (show X = (le, S) by
        rw [← HX.out]
        cases ro with
        | none => rfl
        | some i => exact if_pos h0)
      have e1 : (le != 0) = true := by simpa using h0
      have HE := Lib.hid h0
      clear h0 HX
      go_wp2_with fail
      go_ret
      rw [K.out]
      exact ⟨rfl, act_same HS.out (by rw [hbm]; exact HB2.out)⟩
  · have K := Lib.hid (show X = (er, S) by rw [← HX.out]; exact if_pos he)
    have e1 : (er != 0) = true := by simpa using he
    clear he HX
    go_wp2_with fail
    go_ret
    rw [K.out]
    exact ⟨rfl, act_same HS.out (by rw [hbm]; exact HB1.out)⟩
end Go.Proofs.YtlbbehfbjbbckaaDoor

/-! One entry of one directory changes: in memory, and plainly. -/
set_option linter.unusedVariables false
set_option linter.unusedSimpArgs false
namespace Go.Proofs.YtlbbehfbjbbckaaDoor
open Go.RowKit

def kidsSet (k : List UInt8 → Option Nat) (s : List UInt8) (v : Option Nat) : List UInt8 → Option Nat := fun y => if y = s then v else k y
def kidN (N : Nat → Option Nd) (d : Nat) (s : List UInt8) (v : Option Nat) : Nat → Option Nd := fun i => if i = d then (N d).map (fun m => { m with kids := kidsSet m.kids s v }) else N i
theorem kidN_dir {N : Nat → Option Nd} {d : Nat} (s : List UInt8) (v : Option Nat) {m : Nd} (hm : N d = some m) : kidN N d s v d = some { m with kids := kidsSet m.kids s v } := by unfold kidN; rw [if_pos rfl, hm]; rfl
theorem kidN_old {N : Nat → Option Nd} {d i : Nat} (s : List UInt8) (v : Option Nat) (h : i ≠ d) : kidN N d s v i = N i := if_neg h
theorem kidN_some {N : Nat → Option Nd} {d i : Nat} {s : List UInt8} {v : Option Nat} {m' : Nd} (h : kidN N d s v i = some m') :
    ∃ m, N i = some m ∧ encN m' = encN m ∧ m'.dA = m.dA ∧ m'.dn = m.dn ∧ m'.dc = m.dc ∧ m'.data = m.data ∧ m'.kb = m.kb ∧ m'.kind = m.kind ∧ m'.ino = m.ino ∧ m'.links = m.links ∧ thN m' = thN m ∧ ((i = d ∧ m'.kids = kidsSet m.kids s v) ∨ (i ≠ d ∧ m'.kids = m.kids)) := by
  by_cases hi : i = d
  · subst hi
    unfold kidN at h
    rw [if_pos rfl] at h
    cases hm : N i with
    | none => rw [hm] at h; cases h
    | some m =>
      rw [hm] at h
      simp only [Option.map_some, Option.some.injEq] at h
      subst h
      exact ⟨m, rfl, rfl, rfl, rfl, rfl, rfl, rfl, rfl, rfl, rfl, rfl, .inl ⟨rfl, rfl⟩⟩
  · rw [kidN_old s v hi] at h
    exact ⟨m', h, rfl, rfl, rfl, rfl, rfl, rfl, rfl, rfl, rfl, rfl, .inr ⟨hi, rfl⟩⟩
theorem kidN_is {N : Nat → Option Nd} {d i : Nat} {m : Nd} (s : List UInt8) (v : Option Nat) (h : N i = some m) : ∃ m', kidN N d s v i = some m' ∧ m'.kind = m.kind ∧ m'.ino = m.ino := by
  by_cases hi : i = d
  · subst hi; exact ⟨_, kidN_dir s v h, rfl, rfl⟩
  · exact ⟨m, (kidN_old s v hi).trans h, rfl, rfl⟩
theorem TreeAt.kid {w w' : World} {t top c c' d b : Nat} {next : Int} {N : Nat → Option Nd} {m : Nd} {s : List UInt8} {v : Option Nat} (h : TreeAt w t top next c N) (hd : N d = some m) (hk : m.kb = some b) (hc : c ≤ c')
    (hm : MapAt w' b c' (fun y => (kidsSet m.kids s v y).map ptrN)) (hg : w.grownBy w' (some b)) (hv : ∀ j, v = some j → ∃ x, N j = some x) : TreeAt w' t top next c' (kidN N d s v) := by
  have hb := h.kids d m b hd hk
  have hoth : ∀ {g : Nat} {T : TypeId} {cs : List Value}, Blk w g T cs → Blk w' g T cs := fun hB => hB.grown hg (fun e => hb.ne hB (by cases e; rfl))
  have hdat : ∀ {a : Addr} {cs : Array Value}, w.heap[a.block]? = some (.cells cs 5 (0, 0)) → w'.heap[a.block]? = w.heap[a.block]? := fun {a cs} hc => hg.block _ (Array.getElem?_eq_some_iff.1 hc).1 (fun e => by
    obtain ⟨es, cl, he⟩ := hb.obj
    cases e
    rw [hc] at he; cases he)
  have hmap : ∀ {k cc : Nat} {f : List UInt8 → Option Value}, MapAt w k cc f → k ≠ b → MapAt w' k cc f := fun hM hne => hM.grown hg (fun e => hne (by cases e; rfl))
  refine ⟨hoth h.tree, fun i m' hi => ?_, fun i m' hi => ?_, fun i m' k hi hk' => ?_, fun i m' hi hk' => ?_, fun i j m1 m2 k hi hj h1 h2 => ?_, fun i m' y j hi hy => ?_, ?_, fun i m' hi h2 => ?_, fun i m' hi => ?_⟩
  · obtain ⟨m0, hm0, e1, _⟩ := kidN_some hi
    rw [e1]; exact hoth (h.node i m0 hm0)
  · obtain ⟨m0, hm0, e1, e2, e3, _, e4, _⟩ := kidN_some hi
    rw [e2, e3, e4]
    exact ⟨(h.data i m0 hm0).1.heap1 (fun a ha => by obtain ⟨cs, hc⟩ := (h.data i m0 hm0).2 a ha; exact hdat hc), fun a ha => by obtain ⟨cs, hc⟩ := (h.data i m0 hm0).2 a ha; exact ⟨cs, (hdat hc).trans hc⟩⟩
  · obtain ⟨m0, hm0, e1, _, _, _, _, e5, _, _, _, _, ⟨rfl, e7⟩ | ⟨h2, e7⟩⟩ := kidN_some hi
    · rw [hd, Option.some.injEq] at hm0
      subst hm0
      rw [e5, hk, Option.some.injEq] at hk'
      subst hk'
      rw [e7]; exact hm
    · rw [e5] at hk'
      rw [e7]
      exact (hmap (h.kids i m0 k hm0 hk') (fun e => h2 (h.apart i d m0 m b hm0 hd (by rw [hk', e]) hk))).mono hc
  · obtain ⟨m0, hm0, e1, _, _, _, _, e5, _, _, _, _, ⟨rfl, e7⟩ | ⟨h2, e7⟩⟩ := kidN_some hi
    · rw [hd, Option.some.injEq] at hm0
      subst hm0
      rw [e5, hk] at hk'; cases hk'
    · rw [e7]; exact h.bare i m0 hm0 (by rw [← e5]; exact hk')
  · obtain ⟨a0, ha0, _, _, _, _, _, e5, _⟩ := kidN_some hi
    obtain ⟨b0, hb0, _, _, _, _, _, f5, _⟩ := kidN_some hj
    exact h.apart i j a0 b0 k ha0 hb0 (by rw [← e5]; exact h1) (by rw [← f5]; exact h2)
  · have hex : ∀ j q, N j = some q → ∃ q', kidN N d s v j = some q' := fun j q hq => by
      obtain ⟨q', hq', _⟩ := kidN_is (d := d) s v hq
      exact ⟨q', hq'⟩
    obtain ⟨m0, hm0, e1, _, _, _, _, e5, _, _, _, _, ⟨rfl, e7⟩ | ⟨h2, e7⟩⟩ := kidN_some hi
    · rw [e7] at hy
      unfold kidsSet at hy
      by_cases hys : y = s
      · rw [if_pos hys] at hy
        obtain ⟨x, hx⟩ := hv j hy
        exact hex j x hx
      · rw [if_neg hys] at hy
        obtain ⟨q, hq⟩ := h.closed i m0 y j hm0 hy
        exact hex j q hq
    · rw [e7] at hy
      obtain ⟨q, hq⟩ := h.closed i m0 y j hm0 hy
      exact hex j q hq
  · obtain ⟨r, hr, hr2⟩ := h.root
    obtain ⟨q, hq, hq2, _⟩ := kidN_is (d := d) s v hr
    exact ⟨q, hq, hq2.trans hr2⟩
  · obtain ⟨m0, hm0, _, _, _, _, _, e5, e6, _⟩ := kidN_some hi
    rw [e5]; exact h.dirs i m0 hm0 (by rw [← e6]; exact h2)
  · obtain ⟨m0, hm0, _, _, e3, e4, _⟩ := kidN_some hi
    rw [e3, e4]; exact h.room i m0 hm0
/-- What changes only its entries and its counts is a plain tree still. -/
theorem Rep.change {N N' : Nat → Option Nd} {top d : Nat} {S S' : St} {b : List UInt8} {v : Option Nat} (h : Rep N top S) {m : Nd} (hd : N d = some m) (hmk : m.kind = 2)
    (hfrom : ∀ i n', N' i = some n' → ∃ n, N i = some n ∧ n'.ino = n.ino ∧ thN n' = thN n ∧ ((i = d ∧ n'.kids = kidsSet n.kids b v) ∨ (i ≠ d ∧ n'.kids = n.kids)))
    (hto : ∀ i n, N i = some n → ∃ n', N' i = some n') (hv : ∀ j, v = some j → ∃ x, N j = some x) (hlinks : ∀ j n', N' j = some n' → n'.links = ((S'.ls.countP (fun x => x.2 == n'.ino) : Nat) : Int))
    (hth : S'.th = S.th) (hnext : S'.next = S.next) (hrep : ∀ p, rightB p = true → SameO N' (atN N' (some top) (splitB p)) (S'.at p)) (honly : ∀ X j, atN N' (some top) X = some j → ∃ p, rightB p = true ∧ splitB p = X) : Rep N' top S' := by
  refine ⟨hrep, honly, fun i j n m hi hj he => ?_, fun j n hj => ?_, fun j n hj => ?_, hlinks, fun j n hj hk s => ?_, fun i n s j hi hs => ?_, ?_⟩
  · obtain ⟨a, h1, h2, _⟩ := hfrom i n hi
    obtain ⟨b, h3, h4, _⟩ := hfrom j m hj
    exact h.inj i j a b h1 h3 (by rw [← h2, ← h4]; exact he)
  · obtain ⟨a, h1, h2, h3, _⟩ := hfrom j n hj
    rw [hth, h2, h.info j a h1, h3]
  · obtain ⟨a, h1, h2, _⟩ := hfrom j n hj
    rw [h2, hnext]; exact h.lt j a h1
  · obtain ⟨a, h1, h2, h3, ⟨rfl, h4⟩ | ⟨h5, h4⟩⟩ := hfrom j n hj
    · rw [hd, Option.some.injEq] at h1
      subst h1
      exact absurd (by rw [show n.kind = (thN n).kind from rfl, h3]; exact hmk) hk
    · rw [h4]; exact h.leaf j a h1 (by rw [show a.kind = (thN a).kind from rfl, ← h3]; exact hk) s
  · have hcl : ∀ y, n.kids s = some y → ∃ q, N y = some q := fun y hy => by
      obtain ⟨a, h1, h2, h3, ⟨rfl, h4⟩ | ⟨h5, h4⟩⟩ := hfrom i n hi
      · rw [h4] at hy
        unfold kidsSet at hy
        by_cases hs : s = b
        · rw [if_pos hs] at hy; exact hv y hy
        · rw [if_neg hs] at hy; exact h.closed i a s y h1 hy
      · rw [h4] at hy; exact h.closed i a s y h1 hy
    obtain ⟨q, hq⟩ := hcl j hs
    exact hto j q hq
  · obtain ⟨r, hr⟩ := h.root
    exact hto top r hr
/-- Where one may go, once one entry has changed. -/
structure AtCh (N N' : Nat → Option Nd) (top : Nat) (D : List (List UInt8)) (b : List UInt8) (v : Option Nat) : Prop where
  on : ∀ Z, atN N' (some top) (D ++ b :: Z) = atN N' v Z
  off : ∀ X, (∀ Z, X ≠ D ++ b :: Z) → atN N' (some top) X = atN N (some top) X
theorem Rep.atCh {N N' : Nat → Option Nd} {top d : Nat} {S : St} {b : List UInt8} {v : Option Nat} {D : List (List UInt8)} (h : Rep N top S) (ho : OkS S) {m : Nd} (hd : N d = some m) (hmk : m.kind = 2) (hD : atN N (some top) D = some d)
    (hk : ∀ i, i ≠ d → kidsOf N' i = kidsOf N i) (hkd : kidsOf N' d = kidsSet m.kids b v) : AtCh N N' top D b v := by
  have h2 : ∀ y, y ≠ b → kidsOf N' d y = kidsOf N d y := fun y hy => by
    rw [hkd, kidsOf_some hd]; exact if_neg hy
  have hu : ∀ X, atN N (some top) X = some d → X = D := fun X hX => h.uniq ho hd (by rw [hmk]; decide) hX hD
  refine ⟨fun Z => ?_, fun X hX => atN_off hk h2 hu X hX⟩
  rw [atN_on hk h2 hu hD]
  congr 1
  rw [hkd]; exact if_pos rfl
theorem sameO_mono {N N' : Nat → Option Nd} (h : ∀ i n, N i = some n → ∃ n', N' i = some n' ∧ n'.ino = n.ino) {o : Option Nat} {a : Option Int} (hs : SameO N o a) : SameO N' o a := by
  cases o with
  | none => cases a with
    | none => trivial
    | some i => exact absurd hs (by simp [SameO])
  | some j =>
    obtain ⟨m0, hm0, rfl⟩ := hs.some
    obtain ⟨n', h1, h2⟩ := h j m0 hm0
    exact ⟨n', h1, h2⟩
end Go.Proofs.YtlbbehfbjbbckaaDoor

/-! Another name of a file; a name goes: plainly. -/
set_option linter.unusedVariables false
set_option linter.unusedSimpArgs false
namespace Go.Proofs.YtlbbehfbjbbckaaDoor
open Go.RowKit

/-- The entry, and the count of one thing, change. -/
def relN (N : Nat → Option Nd) (d : Nat) (b : List UInt8) (v : Option Nat) (k : Nat) (n : Int) : Nat → Option Nd := fun i => (kidN N d b v i).map (fun m => if i = k then { m with links := m.links + n } else m)
theorem relN_some {N : Nat → Option Nd} {d i k : Nat} {b : List UInt8} {v : Option Nat} {n : Int} {m' : Nd} (h : relN N d b v k n i = some m') :
    ∃ m, N i = some m ∧ m'.ino = m.ino ∧ thN m' = thN m ∧ m'.links = m.links + (if i = k then n else 0) ∧ ((i = d ∧ m'.kids = kidsSet m.kids b v) ∨ (i ≠ d ∧ m'.kids = m.kids)) := by
  unfold relN at h
  cases hm : kidN N d b v i with
  | none => rw [hm] at h; cases h
  | some m1 =>
    rw [hm] at h
    obtain ⟨m, hm0, _, _, _, _, _, _, _, e1, e2, e3, e4⟩ := kidN_some hm
    simp only [Option.map_some, Option.some.injEq] at h
    subst h
    by_cases hi : i = k
    · rw [if_pos hi, if_pos hi]
      exact ⟨m, hm0, e1, e3, by show m1.links + n = _; rw [e2], e4⟩
    · rw [if_neg hi, if_neg hi]
      exact ⟨m, hm0, e1, e3, by rw [e2]; omega, e4⟩
theorem relN_is {N : Nat → Option Nd} {d i k : Nat} {b : List UInt8} {v : Option Nat} {n : Int} {m : Nd} (h : N i = some m) : ∃ m', relN N d b v k n i = some m' ∧ m'.ino = m.ino := by
  obtain ⟨m1, h1, _, h2⟩ := kidN_is (d := d) b v h
  unfold relN
  rw [h1]
  simp only [Option.map_some, Option.some.injEq, exists_eq_left']
  split
  · exact h2
  · exact h2
theorem relN_kids {N : Nat → Option Nd} {d k : Nat} {b : List UInt8} {v : Option Nat} {n : Int} {m : Nd} (hd : N d = some m) : (∀ i, i ≠ d → kidsOf (relN N d b v k n) i = kidsOf N i) ∧ kidsOf (relN N d b v k n) d = kidsSet m.kids b v := by
  refine ⟨fun i hi => ?_, ?_⟩
  · cases hm : N i with
    | none =>
      have : relN N d b v k n i = none := by unfold relN; rw [kidN_old b v hi, hm]; rfl
      rw [kidsOf_none this, kidsOf_none hm]
    | some m0 =>
      obtain ⟨m', h1, _⟩ := relN_is (d := d) (k := k) (b := b) (v := v) (n := n) hm
      obtain ⟨m1, h2, _, _, _, ⟨rfl, h3⟩ | ⟨_, h3⟩⟩ := relN_some h1
      · exact absurd rfl hi
      · rw [hm, Option.some.injEq] at h2
        subst h2
        rw [kidsOf_some h1, kidsOf_some hm, h3]
  · obtain ⟨m', h1, _⟩ := relN_is (d := d) (k := k) (b := b) (v := v) (n := n) hd
    obtain ⟨m1, h2, _, _, _, ⟨_, h3⟩ | ⟨h4, h3⟩⟩ := relN_some h1
    · rw [hd, Option.some.injEq] at h2
      subst h2
      rw [kidsOf_some h1, h3]
    · exact absurd rfl h4
/-- Another name. -/
theorem Rep.link {N : Nat → Option Nd} {top d k : Nat} {S : St} {p : List UInt8} {x : Nd} (h : Rep N top S) (ho : OkS S) (hl : lookN N top p = (none, some d, 0)) (hk : N k = some x) (hkk : x.kind ≠ 2) : Rep (relN N d (baseB p) (some k) k 1) top { S with ls := S.ls ++ [(p, x.ino)] } := by
  obtain ⟨hr, hp, hd, m, hm, hmk, hmb⟩ := lookN_fresh hl
  have hat : S.at p = none := by
    have := h.rep p hr
    rw [Rep.parent hp hr hd hm, hmb] at this
    exact (this.none_iff).1 rfl
  have hsp := split_parent hp hr
  have hkd : k ≠ d := fun e => by rw [e, hm, Option.some.injEq] at hk; exact hkk (by rw [← hk]; exact hmk)
  obtain ⟨hk1, hk2⟩ := relN_kids (k := k) (b := baseB p) (v := some k) (n := 1) hm
  obtain ⟨hon, hoff⟩ := h.atCh ho hm hmk hd hk1 hk2
  have hlf : ∀ s, kidsOf (relN N d (baseB p) (some k) k 1) k s = none := fun s => by rw [hk1 k hkd, kidsOf_some hk]; exact h.leaf k x hk hkk s
  have hto : ∀ i n, N i = some n → ∃ n', relN N d (baseB p) (some k) k 1 i = some n' ∧ n'.ino = n.ino := fun i n hi => relN_is hi
  have hadd : ∀ q, ({ S with ls := S.ls ++ [(p, x.ino)] } : St).at q = if q = p then some x.ino else S.at q := fun q => by
    unfold St.at at *
    show (S.ls ++ [(p, x.ino)]).lookup q = _
    rw [lookup_append]
    by_cases e : q = p
    · subst e; rw [hat, if_pos rfl]; simp
    · rw [if_neg e]
      have : (q == p) = false := by simpa using e
      simp [List.lookup_cons, this]
  refine h.change hm hmk (fun i n' hi => by obtain ⟨n, h1, h2, h3, _, h4⟩ := relN_some hi; exact ⟨n, h1, h2, h3, h4⟩) (fun i n hi => by obtain ⟨n', h1, _⟩ := hto i n hi; exact ⟨n', h1⟩) (fun j hj => by cases hj; exact ⟨x, hk⟩) (fun j n' hj => ?_) rfl rfl (fun q hq => ?_) (fun X j hX => ?_)
  · obtain ⟨n, h1, h2, h3, h4, _⟩ := relN_some hj
    show n'.links = (((S.ls ++ [(p, x.ino)]).countP (fun y => y.2 == n'.ino) : Nat) : Int)
    rw [List.countP_append, h4, h.links j n h1, h2]
    by_cases hjk : j = k
    · subst hjk
      rw [hk, Option.some.injEq] at h1
      subst h1
      rw [if_pos rfl]
      simp
    · rw [if_neg hjk]
      have : (x.ino == n.ino) = false := by
        have : ¬ x.ino = n.ino := fun e => hjk (h.inj k j x n hk h1 e).symm
        simpa using this
      simp [this]
  · rw [hadd q]
    by_cases hqp : q = p
    · subst hqp
      rw [if_pos rfl, hsp, hon, atN_leaf hlf, if_pos rfl]
      exact hto k x hk
    · rw [if_neg hqp]
      by_cases hz : ∃ Z, splitB q = splitB (parentB p) ++ baseB p :: Z
      · obtain ⟨Z, hZ⟩ := hz
        have hZ0 : Z ≠ [] := fun e => hqp (splitB_inj (by rw [hZ, e, hsp]))
        rw [hZ, hon, atN_leaf hlf, if_neg hZ0]
        have := h.rep q hq
        rw [hZ, atN_append, hd, atN_cons, kidsOf_some hm, hmb, atN_none] at this
        rw [(this.none_iff).1 rfl]; trivial
      · rw [hoff _ (fun Z e => hz ⟨Z, e⟩)]
        exact sameO_mono hto (h.rep q hq)
  · by_cases hz : ∃ Z, X = splitB (parentB p) ++ baseB p :: Z
    · obtain ⟨Z, rfl⟩ := hz
      rw [hon, atN_leaf hlf] at hX
      by_cases hZ : Z = []
      · subst hZ; exact ⟨p, hr, hsp⟩
      · rw [if_neg hZ] at hX; cases hX
    · rw [hoff _ (fun Z e => hz ⟨Z, e⟩)] at hX
      exact h.only X j hX
theorem OkS.link {S : St} (h : OkS S) {p : List UInt8} {i : Int} (hl : S.look p = (none, 0)) (hi : ∃ q, S.at q = some i) (hk : (S.th i).kind = 1) : OkS { S with ls := S.ls ++ [(p, i)] } := by
  obtain ⟨h1, h2, h3, d, h4, h5⟩ := look_fresh hl
  obtain ⟨q0, hq0⟩ := hi
  have hm0 := (h.at_iff q0 i).1 hq0
  have hno : ∀ x ∈ S.ls, x.1 ≠ p := fun x hx e => by
    have := (h.at_iff x.1 x.2).2 hx
    rw [e, h3] at this; cases this
  have hadd : ∀ q e, S.at q = some e → ({ S with ls := S.ls ++ [(p, i)] } : St).at q = some e := fun q e he => by
    unfold St.at at *
    show (S.ls ++ [(p, i)]).lookup q = _
    rw [lookup_append, he]; rfl
  refine ⟨List.pairwise_append.2 ⟨h.nodup, List.pairwise_singleton .., fun x hx y hy => ?_⟩, fun x hx => ?_, hadd _ _ h.top, fun x hx => ?_, fun x hx y hy he hne => ?_, fun x hx => ?_, h.kind1, h.tgt, fun x hx hne => ?_⟩
  · rw [List.mem_singleton] at hy; subst hy; exact hno x hx
  · rcases List.mem_append.1 hx with hx | hx
    · exact h.right x hx
    · rw [List.mem_singleton] at hx; subst hx; exact h1
  · rcases List.mem_append.1 hx with hx | hx
    · exact h.lt x hx
    · rw [List.mem_singleton] at hx; subst hx; exact (show 1 ≤ i ∧ i < S.next from h.lt (q0, i) hm0)
  · rcases List.mem_append.1 hx with hx | hx
    · rcases List.mem_append.1 hy with hy | hy
      · exact h.one x hx y hy he hne
      · rw [List.mem_singleton] at hy; subst hy
        have he' : x.2 = i := he
        rw [he'] at hne
        exact absurd hk hne
    · rw [List.mem_singleton] at hx; subst hx; exact absurd hk hne
  · rcases List.mem_append.1 hx with hx | hx
    · exact h.kind x hx
    · rw [List.mem_singleton] at hx; subst hx; exact .inl hk
  · rcases List.mem_append.1 hx with hx | hx
    · obtain ⟨e, he, hk⟩ := h.up x hx hne
      exact ⟨e, hadd _ _ he, hk⟩
    · rw [List.mem_singleton] at hx; subst hx
      exact ⟨d, hadd _ _ h4, h5⟩
theorem countP_gone {l : List (List UInt8 × Int)} (hn : l.Pairwise (fun x y => x.1 ≠ y.1)) {p : List UInt8} {i : Int} (h : (p, i) ∈ l) : (l.countP (fun y => y.2 == i) : Nat) = (l.filter (fun y => y.1 != p)).countP (fun y => y.2 == i) + 1 := by
  induction l with
  | nil => cases h
  | cons y l ih =>
    obtain ⟨h1, h2⟩ := List.pairwise_cons.1 hn
    rcases List.mem_cons.1 h with h | h
    · subst h
      have : (l.filter (fun y => y.1 != p)) = l := List.filter_eq_self.2 (fun z hz => by have := h1 z hz; simpa using fun e : z.1 = p => this e.symm)
      rw [List.filter_cons_of_neg (by simp), this, List.countP_cons_of_pos (by simp)]
    · have hne : y.1 ≠ p := fun e => h1 _ h e
      rw [List.filter_cons_of_pos (by simpa using hne), List.countP_cons, List.countP_cons, ih h2 h]
      omega
theorem countP_stay {l : List (List UInt8 × Int)} (hn : l.Pairwise (fun x y => x.1 ≠ y.1)) {p : List UInt8} {i j : Int} (h : (p, i) ∈ l) (hij : i ≠ j) : (l.filter (fun y => y.1 != p)).countP (fun y => y.2 == j) = l.countP (fun y => y.2 == j) := by
  induction l with
  | nil => cases h
  | cons y l ih =>
    obtain ⟨h1, h2⟩ := List.pairwise_cons.1 hn
    rcases List.mem_cons.1 h with h | h
    · subst h
      have : (l.filter (fun y => y.1 != p)) = l := List.filter_eq_self.2 (fun z hz => by have := h1 z hz; simpa using fun e : z.1 = p => this e.symm)
      rw [List.filter_cons_of_neg (by simp), this, List.countP_cons_of_neg (by simpa using hij)]
    · have hne : y.1 ≠ p := fun e => h1 _ h e
      rw [List.filter_cons_of_pos (by simpa using hne), List.countP_cons, List.countP_cons, ih h2 h]
/-- A name goes that has nothing below it. -/
theorem Rep.gone {N : Nat → Option Nd} {top d k : Nat} {S : St} {p : List UInt8} {x : Nd} (h : Rep N top S) (ho : OkS S) (hl : lookN N top p = (some k, some d, 0)) (hk : N k = some x) (hkk : ∀ s, x.kids s = none) : Rep (relN N d (baseB p) none k (-1)) top { S with ls := S.ls.filter (fun y => y.1 != p) } := by
  obtain ⟨hr, hp, hd, m, hm, hmk, hmb⟩ := lookN_fresh hl
  have hat : S.at p = some x.ino := by
    have := h.rep p hr
    rw [Rep.parent hp hr hd hm, hmb] at this
    obtain ⟨n, h1, h2⟩ := this.some
    rw [hk, Option.some.injEq] at h1
    subst h1; exact h2
  have hsp := split_parent hp hr
  obtain ⟨hk1, hk2⟩ := relN_kids (k := k) (b := baseB p) (v := none) (n := -1) hm
  obtain ⟨hon, hoff⟩ := h.atCh ho hm hmk hd hk1 hk2
  have hto : ∀ i n, N i = some n → ∃ n', relN N d (baseB p) none k (-1) i = some n' ∧ n'.ino = n.ino := fun i n hi => relN_is hi
  have hsub : ∀ q, ({ S with ls := S.ls.filter (fun y => y.1 != p) } : St).at q = if q = p then none else S.at q := fun q => by
    unfold St.at
    show (S.ls.filter (fun y => y.1 != p)).lookup q = _
    clear hat hto hon hoff hk1 hk2 hsp hmb hd
    induction S.ls with
    | nil => simp
    | cons y l ih =>
      obtain ⟨y1, y2⟩ := y
      by_cases hy : y1 = p
      · subst hy
        rw [List.filter_cons_of_neg (by simp), ih, List.lookup_cons]
        by_cases e : q = y1
        · rw [if_pos e, if_pos e]
        · rw [if_neg e, if_neg e]
          have : (q == y1) = false := by simpa using e
          rw [this]
      · rw [List.filter_cons_of_pos (by simpa using hy), List.lookup_cons, List.lookup_cons]
        by_cases e : q = y1
        · subst e
          rw [if_neg hy]; simp
        · have : (q == y1) = false := by simpa using e
          rw [this]; exact ih
  refine h.change hm hmk (fun i n' hi => by obtain ⟨n, h1, h2, h3, _, h4⟩ := relN_some hi; exact ⟨n, h1, h2, h3, h4⟩) (fun i n hi => by obtain ⟨n', h1, _⟩ := hto i n hi; exact ⟨n', h1⟩) (fun j hj => by cases hj) (fun j n' hj => ?_) rfl rfl (fun q hq => ?_) (fun X j hX => ?_)
  · obtain ⟨n, h1, h2, h3, h4, _⟩ := relN_some hj
    show n'.links = (((S.ls.filter (fun y => y.1 != p)).countP (fun y => y.2 == n'.ino) : Nat) : Int)
    rw [h4, h.links j n h1, h2]
    have hmem := (ho.at_iff p x.ino).1 hat
    by_cases hjk : j = k
    · subst hjk
      rw [hk, Option.some.injEq] at h1
      subst h1
      rw [if_pos rfl, countP_gone ho.nodup hmem]
      omega
    · rw [if_neg hjk]
      have hne : x.ino ≠ n.ino := fun e => hjk (h.inj k j x n hk h1 e).symm
      rw [countP_stay ho.nodup hmem hne]
      omega
  · rw [hsub q]
    by_cases hqp : q = p
    · subst hqp
      rw [if_pos rfl, hsp, hon, atN_none]; trivial
    · rw [if_neg hqp]
      by_cases hz : ∃ Z, splitB q = splitB (parentB p) ++ baseB p :: Z
      · obtain ⟨Z, hZ⟩ := hz
        have hZ0 : Z ≠ [] := fun e => hqp (splitB_inj (by rw [hZ, e, hsp]))
        rw [hZ, hon, atN_none]
        have := h.rep q hq
        rw [hZ, atN_append, hd, atN_cons, kidsOf_some hm, hmb, atN_leaf (fun s => by rw [kidsOf_some hk]; exact hkk s), if_neg hZ0] at this
        rw [(this.none_iff).1 rfl]; trivial
      · rw [hoff _ (fun Z e => hz ⟨Z, e⟩)]
        exact sameO_mono hto (h.rep q hq)
  · by_cases hz : ∃ Z, X = splitB (parentB p) ++ baseB p :: Z
    · obtain ⟨Z, rfl⟩ := hz
      rw [hon, atN_none] at hX; cases hX
    · rw [hoff _ (fun Z e => hz ⟨Z, e⟩)] at hX
      exact h.only X j hX
end Go.Proofs.YtlbbehfbjbbckaaDoor
