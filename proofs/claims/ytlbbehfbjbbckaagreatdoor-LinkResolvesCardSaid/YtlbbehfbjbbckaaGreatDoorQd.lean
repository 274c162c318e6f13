import Derived.Test.YtlbbehfbjbbckaaGreatDoorQc
import Derived.Test.YtlbbehfbjbbckaaGreatDoorQb
import Derived.Test.YtlbbehfbjbbckaaGreatDoorQa
/-! What stands at a path: the program's at. -/
set_option linter.unusedVariables false
set_option linter.unusedSimpArgs false
namespace Go.Proofs.YtlbbehfbjbbckaaGreatDoor
open Go.RowKit

theorem cutN_part (l : List UInt8) : ∀ i, ∀ x ∈ (cutN l i).1, x.length ≤ l.length
  | 0, x, h => by simp [cutN] at h
  | i+1, x, h => by
    rw [cutN] at h
    split at h
    · rcases List.mem_append.1 h with h | h
      · exact cutN_part l i x h
      · rw [List.mem_singleton] at h
        subst h
        rw [List.length_take, List.length_drop]; omega
    · exact cutN_part l i x h
theorem splitB_part (l : List UInt8) : ∀ x ∈ splitB l, x.length ≤ l.length := by
  intro x h
  by_cases hl : l = []
  · subst hl; simp [splitB] at h
  · rw [splitB_ne hl] at h
    rcases List.mem_append.1 h with h | h
    · exact cutN_part l _ x h
    · rw [List.mem_singleton] at h
      subst h
      unfold baseB
      rw [List.length_drop]; omega
theorem ptrZero (w : World) : (zeroValue 99).run Tryz.prog w = .ok (.pointer none) w := by kernel_rfl
theorem kids_get (o : Option Nat) : ((o.map ptrN).getD (.pointer none)) = ptrO o := by cases o <;> rfl
theorem node_cells {w : World} {i : Nat} {n : Nd} (h : Blk w i 111 (encN n)) : w.cell? ⟨i, 0, none⟩ = some (.int .i64 n.kind) ∧ w.cell? ⟨i, 1, none⟩ = some (.int .i64 n.ino) ∧ w.cell? ⟨i, 2, none⟩ = some (.int .i64 n.size) ∧ w.cell? ⟨i, 3, none⟩ = some (.int .i64 n.links) ∧ w.cell? ⟨i, 4, none⟩ = some (.int .i64 n.m0) ∧ w.cell? ⟨i, 5, none⟩ = some (.int .i64 n.m1) ∧ w.cell? ⟨i, 6, none⟩ = some (.int .i64 n.m2) ∧ w.cell? ⟨i, 7, none⟩ = some (.int .i64 n.m3) ∧ w.cell? ⟨i, 8, none⟩ = some (.int .i64 n.m4) ∧ w.cell? ⟨i, 9, none⟩ = some (.string n.target) ∧ w.cell? ⟨i, 10, none⟩ = some (.slice n.dA n.dn n.dc) ∧ w.cell? ⟨i, 11, none⟩ = some (.map n.kb) :=
  ⟨h.cell 0, h.cell 1, h.cell 2, h.cell 3, h.cell 4, h.cell 5, h.cell 6, h.cell 7, h.cell 8, h.cell 9, h.cell 10, h.cell 11⟩
theorem cell_below {w w' : World} {a : Addr} {v : Value} (h : w.cell? a = some v) (hb : Below w.heap.size w w') : w'.cell? a = some v := by rw [← h]; unfold World.cell?; rw [hb.block _ (block_lt_of_cell h)]
theorem mapEqN (w : World) : (binOp BinOp.eql 109 (.map none) (.map none)).run Tryz.prog w = .ok (.bool true) w := by kernel_rfl
theorem mapEqS (k : Nat) (w : World) : (binOp BinOp.eql 109 (.map (some k)) (.map none)).run Tryz.prog w = .ok (.bool false) w := by kernel_rfl
theorem drop_at {α : Type} {l : List α} {i : Nat} {x : α} (h : l[i]? = some x) : l.drop i = x :: l.drop (i + 1) := by
  obtain ⟨hi, he⟩ := List.getElem?_eq_some_iff.1 h
  rw [List.drop_eq_getElem_cons hi, he]
set_option maxRecDepth 100000 in
set_option maxHeartbeats 4000000 in
theorem at_any (t top c : Nat) (next : Int) (N : Nat → Option Nd) (p : ByteArray) (w : World) (h : TreeAt w t top next c N) (hp : p.size ≤ 2097152) :
    Calls Tryz.prog 127 #[.pointer (some ⟨t, 0, none⟩), .string p] w fun e w' => e = .returned (ptrO (atN N (some top) (splitB p.data.toList))) ∧ Below w.heap.size w w' := by
  obtain ⟨X, hX⟩ : ∃ X, splitB p.data.toList = X := ⟨_, rfl⟩
  have HSP := Lib.hid (pathSplit_any p w hp)
  have HPL := Lib.hid (show ∀ x ∈ X, x.length ≤ 2097152 from fun x hx => by rw [← hX] at hx; have := splitB_part _ x hx; rw [Array.length_toList] at this; exact Nat.le_trans this hp)
  obtain ⟨RES, hR⟩ : ∃ RES, atN N (some top) X = RES := ⟨_, rfl⟩
  rw [hX] at HSP ⊢
  rw [hR]
  have HR := Lib.hid hR
  have HT := Lib.hid h
  have t0 := h.tree.cell 0
  unfold ptrN at t0
  simp only [List.getElem?_cons_zero] at t0
  clear h hR hX
  go_enter Tryz.func127, Tryz.ntmps127
  go_wp2_with fail
  refine HSP.out.mono ?_
  rintro e w1 ⟨⟨A, n, cc, rfl, rfl, hcc, hsl⟩, hb1⟩
  have T1 := Lib.hid (HT.out.below hb1)
  have HS := Lib.hid hsl
  have B1 := Lib.hid hb1
  have hnm := hsl.max
  clear hb1 hsl HSP t0 HT
  go_wp2_with fail
  go_loopw [5, 15] (fun u v wr => ∃ (i : Nat) (cur : Option Nat), u = ptrO cur ∧ v = .int .i64 i ∧ i ≤ X.length ∧ atN N cur (X.drop i) = RES ∧ (∀ j, cur = some j → ∃ m, N j = some m) ∧ Below w1.heap.size w1 wr) (fun _ v _ => X.length - (intOf v).toNat)
  case atStart => exact ⟨0, some top, rfl, rfl, Nat.zero_le _, HR.out, fun j hj => by cases hj; obtain ⟨m, hm, _⟩ := T1.out.root; exact ⟨m, hm⟩, Below.refl _ _⟩
  case round =>
    obtain ⟨i, cur, rfl, rfl, hi, hat, hcur, hb⟩ := hrel
    have HAT := Lib.hid hat
    have HB := Lib.hid hb
    have HT := Lib.hid (T1.out.below hb)
    have HB9 := Lib.hid (B1.out.trans (hb.mono B1.out.size))
    have HSw := Lib.hid (HS.out.below hb)
    clear hat hb
    rcases Nat.lt_or_ge i X.length with h | h
    · obtain ⟨b, o, x, hA, hx, hc⟩ := HSw.out.strRow h
      have HDX := Lib.hid (drop_at hx)
      have hxl := HPL.out x (List.mem_of_getElem? hx)
      have hi2 : (i : Int) < (X.length : Int) := by omega
      subst hA
      clear hx
      cases cur with
      | none =>
        have K := Lib.hid (show RES = none by rw [← HAT.out, HDX.out]; exact atN_none _ _)
        unfold ptrO
        go_wp2_with fail
        go_ret
        exact ⟨by rw [K.out]; rfl, HB9.out⟩
      | some j =>
        obtain ⟨m, hm⟩ := hcur j rfl
        have HK := Lib.hid (show atN N (m.kids x) (X.drop (i + 1)) = RES by rw [← HAT.out, HDX.out]; exact (atN_step hm).symm)
        obtain ⟨n0, _, _, _, _, _, _, _, _, _, n10, n11⟩ := node_cells (HT.out.node j m hm)
        have hmk : m.kb = m.kb := rfl
        unfold ptrO ptrN
        cases hkb : m.kb with
        | none =>
          rw [hkb] at n11
          have K := Lib.hid (show RES = none by rw [← HK.out, HT.out.bare j m hm hkb]; exact atN_none _ _)
          clear hmk
          have hme := mapEqN
          go_wp2_with fail
          go_ret
          exact ⟨by rw [K.out]; rfl, HB9.out⟩
        | some kbk =>
          rw [hkb] at n11
          have hxs : (str x).size ≤ maxLen := by
            show x.toArray.size ≤ maxLen
            rw [List.size_toArray]; unfold maxLen; omega
          have hlk := (HT.out.kids j m kbk hm hkb).look Tryz.underlying109 (ptrZero _) (s := str x) hxs
          have hst : (str x).data.toList = x := by simp [str]
          rw [hst, kids_get] at hlk
          have HCL := Lib.hid (fun k (hk : m.kids x = some k) => HT.out.closed j m x k hm hk)
          generalize m.kids x = nk at *
          clear hmk hst
          have hme := mapEqS kbk
          go_wp2_with fail
          go_roundw
          case rel => exact ⟨i + 1, nk, rfl, by go_num, by omega, HK.out, fun k hk => HCL.out k hk, HB.out⟩
          case measure => simp [intOf] <;> omega
    · obtain rfl : i = X.length := by omega
      have K := Lib.hid (show RES = cur by rw [← HAT.out, List.drop_of_length_le (Nat.le_refl _)]; cases cur <;> rfl)
      have hin : ¬ ((X.length : Int) < (X.length : Int)) := by omega
      clear hi h
      go_wp2_with fail
      go_ret
      exact ⟨by rw [K.out]; rfl, HB9.out⟩
end Go.Proofs.YtlbbehfbjbbckaaGreatDoor

/-! A path that is looked up: the program's look, there, fresh. -/
set_option linter.unusedVariables false
set_option linter.unusedSimpArgs false
namespace Go.Proofs.YtlbbehfbjbbckaaGreatDoor
open Go.RowKit

def tupL (l : Option Nat × Option Nat × Int) : Value := .tuple #[ptrO l.1, ptrO l.2.1, .int .i64 l.2.2]
theorem baseB_len (l : List UInt8) : (baseB l).length ≤ l.length := by unfold baseB; rw [List.length_drop]; omega
theorem atN_some {w : World} {t top c : Nat} {next : Int} {N : Nat → Option Nd} (h : TreeAt w t top next c N) : ∀ {l : List (List UInt8)} {cur : Option Nat} {d : Nat}, (∀ j, cur = some j → ∃ m, N j = some m) → atN N cur l = some d → ∃ m, N d = some m
  | [], cur, d, hc, hd => hc d hd
  | x :: l, none, d, _, hd => by rw [atN] at hd; cases hd
  | x :: l, some j, d, hc, hd => by
    obtain ⟨m, hm⟩ := hc j rfl
    rw [atN_step hm] at hd
    exact atN_some h (fun k hk => h.closed j m x k hm hk) hd
theorem parentB_size (p : ByteArray) : (str (parentB p.data.toList)).size ≤ p.size := by
  rw [size_toList]
  have := parentB_len p.data.toList
  have h2 : p.data.toList.length = p.size := Array.length_toList
  omega
set_option maxRecDepth 100000 in
set_option maxHeartbeats 4000000 in
theorem look_any (t top c : Nat) (next : Int) (N : Nat → Option Nd) (p : ByteArray) (w : World) (h : TreeAt w t top next c N) (hp : p.size ≤ 2097152) :
    Calls Tryz.prog 86 #[.pointer (some ⟨t, 0, none⟩), .string p] w fun e w' => e = .returned (tupL (lookN N top p.data.toList)) ∧ Below w.heap.size w w' := by
  obtain ⟨X, hX⟩ : ∃ X, lookN N top p.data.toList = X := ⟨_, rfl⟩
  have HX : Hid ((if rightB p.data.toList = false then (none, none, (9 : Int)) else if p.data.toList = [] then (some top, none, (0 : Int)) else match atN N (some top) (splitB (parentB p.data.toList)) with | none => (none, none, (10 : Int)) | some d => match N d with | none => (none, none, (10 : Int)) | some n => if n.kind = 2 then (n.kids (baseB p.data.toList), some d, (0 : Int)) else (none, none, (12 : Int))) = X) := Lib.hid hX
  rw [hX]
  clear hX
  have HR := Lib.hid (right_any p _ w rfl hp)
  have HT := Lib.hid h
  generalize rightB p.data.toList = rb at *
  clear h
  go_enter Tryz.func86, Tryz.ntmps86
  go_wp2_with fail
  refine HR.out.mono ?_
  rintro e w1 ⟨rfl, hb1⟩
  have T1 := Lib.hid (HT.out.below hb1)
  have B1 := Lib.hid hb1
  clear hb1 HR HT
  cases rb with
  | false =>
    have K := Lib.hid (show X = (none, none, (9 : Int)) by rw [← HX.out]; rfl)
    go_wp2_with fail
    go_ret3
    exact ⟨by rw [K.out]; rfl, B1.out⟩
  | true =>
  have HX := Lib.hid (show (if p.data.toList = [] then (some top, none, (0 : Int)) else match atN N (some top) (splitB (parentB p.data.toList)) with | none => (none, none, (10 : Int)) | some d => match N d with | none => (none, none, (10 : Int)) | some n => if n.kind = 2 then (n.kids (baseB p.data.toList), some d, (0 : Int)) else (none, none, (12 : Int))) = X from HX.out)
  by_cases hz : p.size = 0
  · obtain rfl : p = ⟨#[]⟩ := ByteArray.ext (Array.size_eq_zero_iff.1 hz)
    have K := Lib.hid (show X = (some top, none, (0 : Int)) by rw [← HX.out]; rfl)
    have t0 := T1.out.tree.cell 0
    unfold ptrN at t0
    simp only [List.getElem?_cons_zero] at t0
    clear hz
    go_wp2_with fail
    go_ret3
    exact ⟨by rw [K.out]; rfl, B1.out⟩
  have hnil := nil_toList p hz
  have hne : p.data.toList ≠ [] := fun e => hz (by have : p.data.toList.length = 0 := by rw [e]; rfl
                                                   rwa [Array.length_toList] at this)
  have HX := Lib.hid (show (match atN N (some top) (splitB (parentB p.data.toList)) with | none => (none, none, (10 : Int)) | some d => match N d with | none => (none, none, (10 : Int)) | some n => if n.kind = 2 then (n.kids (baseB p.data.toList), some d, (0 : Int)) else (none, none, (12 : Int))) = X by rw [← HX.out, if_neg hne])
  have hpl := parentB_size p
  have HA := Lib.hid (at_any t top c next N (str (parentB p.data.toList)) w1 T1.out (by omega))
  have hse : splitB (str (parentB p.data.toList)).data.toList = splitB (parentB p.data.toList) := by simp [str]
  rw [hse] at HA
  clear hz hne hse
  have HCL := Lib.hid (fun d (hd : atN N (some top) (splitB (parentB p.data.toList)) = some d) => atN_some T1.out (fun j hj => by cases hj; obtain ⟨m, hm, _⟩ := T1.out.root; exact ⟨m, hm⟩) hd)
  generalize atN N (some top) (splitB (parentB p.data.toList)) = od at *
  go_wp2_with fail
  refine (parent_any p w1 (by omega)).mono ?_
  rintro e w1 ⟨rfl, rfl⟩
  go_wp2_with fail
  refine HA.out.mono ?_
  rintro e w2 ⟨rfl, hb2⟩
  have T2 := Lib.hid (T1.out.below hb2)
  have B2 := Lib.hid (B1.out.trans (hb2.mono B1.out.size))
  clear hb2 HA T1 B1
  cases od with
  | none =>
    have K := Lib.hid (show X = (none, none, (10 : Int)) from HX.out.symm)
    unfold ptrO
    go_wp2_with fail
    go_ret3
    exact ⟨by rw [K.out]; rfl, B2.out⟩
  | some d =>
    obtain ⟨m, hm⟩ := HCL.out d rfl
    have HX := Lib.hid (show (if m.kind = 2 then (m.kids (baseB p.data.toList), some d, (0 : Int)) else (none, none, (12 : Int))) = X by
      have h := HX.out
      simp only [hm] at h
      exact h)
    obtain ⟨n0, _, _, _, _, _, _, _, _, _, n10, n11⟩ := node_cells (T2.out.node d m hm)
    unfold ptrO ptrN
    by_cases hk : m.kind = 2
    · have K := Lib.hid (show X = (m.kids (baseB p.data.toList), some d, (0 : Int)) by rw [← HX.out, if_pos hk])
      have e1 : (m.kind != 2) = false := by simpa using hk
      obtain ⟨kb, hkb⟩ : ∃ kb, m.kb = some kb := by
        cases hq : m.kb with
        | none => exact absurd hq (T2.out.dirs d m hm hk)
        | some kb => exact ⟨kb, rfl⟩
      have hbs : (str (baseB p.data.toList)).size ≤ maxLen := by
        rw [size_toList]
        have := baseB_len p.data.toList
        have h2 : p.data.toList.length = p.size := Array.length_toList
        unfold maxLen; omega
      have HLK := Lib.hid (fun w' (h : Below w2.heap.size w2 w') => by
        have := ((T2.out.kids d m kb hm hkb).below h).look Tryz.underlying109 (ptrZero w') (s := str (baseB p.data.toList)) hbs
        have hst : (str (baseB p.data.toList)).data.toList = baseB p.data.toList := by simp [str]
        rw [hst, kids_get] at this
        exact this)
      rw [hkb] at n11
      have h0' : w2.drew.cell? ⟨d, 0, none⟩ = some (.int .i64 m.kind) := n0
      have h11' : w2.drew.cell? ⟨d, 11, none⟩ = some (.map (some kb)) := n11
      generalize m.kids (baseB p.data.toList) = nk at *
      clear hk hbs
      go_wp2_with fail
      refine wp_region_held_drew (S := fun w' => Below (w2.drew).heap.size (w2.drew) w') (by kernel_rfl) (Below.refl _ _) (fun hHeld => ?_)
      refine wpAnyH_take (i := 0) (oi := ?oi1) (v := ?v1) ?hi1 ?hs1 ?hf1 ?hr1 ?hQ1 (Or.inl ⟨?hg1, ?hy1⟩) hHeld ?rest1
      case hi1 => simp only [List.getElem?_toArray, List.getElem?_cons_succ, List.getElem?_cons_zero]; rfl
      case hs1 => kernel_rfl
      case hf1 => kernel_rfl
      case hr1 => kernel_rfl
      case hg1 => rfl
      case hy1 => (intro w hSw; first | (go_simp; done) | (go_simp; with_reducible rfl))
      case hQ1 => exact fun _ _ _ h => h
      try simp only [Act.put, List.setIfInBounds_toArray, List.set_cons_zero, List.set_cons_succ]
      refine wpAnyH_take (i := 1) (oi := ?oi2) (v := ?v2) ?hi2 ?hs2 ?hf2 ?hr2 ?hQ2 (Or.inl ⟨?hg2, ?hy2⟩) hHeld ?rest2
      case hi2 => simp only [List.getElem?_toArray, List.getElem?_cons_succ, List.getElem?_cons_zero]; rfl
      case hs2 => kernel_rfl
      case hf2 => kernel_rfl
      case hr2 => kernel_rfl
      case hg2 => rfl
      case hy2 => (intro w hSw; have x0 := cell_below h0' hSw; first | (go_simp; done) | (go_simp; with_reducible rfl))
      case hQ2 => exact fun _ _ _ h => h
      try simp only [Act.put, List.setIfInBounds_toArray, List.set_cons_zero, List.set_cons_succ]
      refine wpAnyH_take (i := 2) (oi := ?oi3) (v := ?v3) ?hi3 ?hs3 ?hf3 ?hr3 ?hQ3 (Or.inl ⟨?hg3, ?hy3⟩) hHeld ?rest3
      case hi3 => simp only [List.getElem?_toArray, List.getElem?_cons_succ, List.getElem?_cons_zero]; rfl
      case hs3 => kernel_rfl
      case hf3 => kernel_rfl
      case hr3 => kernel_rfl
      case hg3 => rfl
      case hy3 => (intro w hSw; have x0 := cell_below h0' hSw; first | (go_simp; done) | (go_simp; with_reducible rfl))
      case hQ3 => exact fun _ _ _ h => h
      try simp only [Act.put, List.setIfInBounds_toArray, List.set_cons_zero, List.set_cons_succ]
      refine wpAnyH_take (i := 3) (oi := ?oi4) (v := ?v4) ?hi4 ?hs4 ?hf4 ?hr4 ?hQ4 (Or.inl ⟨?hg4, ?hy4⟩) hHeld ?rest4
      case hi4 => simp only [List.getElem?_toArray, List.getElem?_cons_succ, List.getElem?_cons_zero]; rfl
      case hs4 => kernel_rfl
      case hf4 => kernel_rfl
      case hr4 => kernel_rfl
      case hg4 => rfl
      case hy4 => (intro w hSw; have x0 := cell_below h11' hSw; first | (go_simp; done) | (go_simp; with_reducible rfl))
      case hQ4 => exact fun _ _ _ h => h
      try simp only [Act.put, List.setIfInBounds_toArray, List.set_cons_zero, List.set_cons_succ]
      refine wpAnyH_take (i := 4) (oi := ?oi5) (v := ?v5) ?hi5 ?hs5 ?hf5 ?hr5 ?hQ5 (Or.inl ⟨?hg5, ?hy5⟩) hHeld ?rest5
      case hi5 => simp only [List.getElem?_toArray, List.getElem?_cons_succ, List.getElem?_cons_zero]; rfl
      case hs5 => kernel_rfl
      case hf5 => kernel_rfl
      case hr5 => kernel_rfl
      case hg5 => rfl
      case hy5 => (intro w hSw; first | (go_simp; done) | (go_simp; with_reducible rfl))
      case hQ5 => exact fun _ _ _ h => h
      try simp only [Act.put, List.setIfInBounds_toArray, List.set_cons_zero, List.set_cons_succ]
      refine wpAnyH_take (i := 7) (oi := ?oi6) (v := ?v6) ?hi6 ?hs6 ?hf6 ?hr6 ?hQ6 (Or.inl ⟨?hg6, ?hy6⟩) hHeld ?rest6
      case hi6 => simp only [List.getElem?_toArray, List.getElem?_cons_succ, List.getElem?_cons_zero]; rfl
      case hs6 => kernel_rfl
      case hf6 => kernel_rfl
      case hr6 => kernel_rfl
      case hg6 => rfl
      case hy6 => (intro w hSw; first | (go_simp; done) | (go_simp; with_reducible rfl))
      case hQ6 => exact fun _ _ _ h => h
      try simp only [Act.put, List.setIfInBounds_toArray, List.set_cons_zero, List.set_cons_succ]
      refine wpAnyH_ready (rs := [5]) (by kernel_rfl) (by simp) ?_
      refine AllReadyH.cons (o := ?oi7) ?hi7 (fun K hK => ?_) AllReadyH.nil
      case hi7 => simp only [List.getElem?_toArray, List.getElem?_cons_succ, List.getElem?_cons_zero]; rfl
      go_simp; go_at_call 124; refine (base_any p _ (by omega)).mono ?_; rintro e w5 ⟨rfl, rfl⟩; go_wp2_with fail
      refine hK.out _ _ ((Below.refl _ _)) (fun hHeld2 => ?_)
      clear hK K hHeld
      have hHeld := hHeld2
      clear hHeld2
      try simp only [Act.put, List.setIfInBounds_toArray, List.set_cons_zero, List.set_cons_succ]
      refine wpAnyH_take (i := 6) (oi := ?oi8) (v := ?v8) ?hi8 ?hs8 ?hf8 ?hr8 ?hQ8 (Or.inl ⟨?hg8, ?hy8⟩) hHeld ?rest8
      case hi8 => simp only [List.getElem?_toArray, List.getElem?_cons_succ, List.getElem?_cons_zero]; rfl
      case hs8 => kernel_rfl
      case hf8 => kernel_rfl
      case hr8 => kernel_rfl
      case hg8 => rfl
      case hy8 => (intro w hSw; have x0 := HLK.out w ((Below.refl _ _).drew.trans hSw); first | (go_simp; done) | (go_simp; with_reducible rfl))
      case hQ8 => exact fun _ _ _ h => h
      try simp only [Act.put, List.setIfInBounds_toArray, List.set_cons_zero, List.set_cons_succ]
      refine wpAnyH_take (i := 8) (oi := ?oi9) (v := ?v9) ?hi9 ?hs9 ?hf9 ?hr9 ?hQ9 (Or.inl ⟨?hg9, ?hy9⟩) hHeld ?rest9
      case hi9 => simp only [List.getElem?_toArray, List.getElem?_cons_succ, List.getElem?_cons_zero]; rfl
      case hs9 => kernel_rfl
      case hf9 => kernel_rfl
      case hr9 => kernel_rfl
      case hg9 => rfl
      case hy9 => (intro w hSw; first | (go_simp; done) | (go_simp; with_reducible rfl))
      case hQ9 => exact fun _ _ _ h => h
      try simp only [Act.put, List.setIfInBounds_toArray, List.set_cons_zero, List.set_cons_succ]
      refine wpAnyH_take (i := 9) (oi := ?oi10) (v := ?v10) ?hi10 ?hs10 ?hf10 ?hr10 ?hQ10 (Or.inl ⟨?hg10, ?hy10⟩) hHeld ?rest10
      case hi10 => simp only [List.getElem?_toArray, List.getElem?_cons_succ, List.getElem?_cons_zero]; rfl
      case hs10 => kernel_rfl
      case hf10 => kernel_rfl
      case hr10 => kernel_rfl
      case hg10 => rfl
      case hy10 => (intro w hSw; first | (go_simp; done) | (go_simp; with_reducible rfl))
      case hQ10 => exact fun _ _ _ h => h
      try simp only [Act.put, List.setIfInBounds_toArray, List.set_cons_zero, List.set_cons_succ]
      refine wpAnyH_take (i := 10) (oi := ?oi11) (v := ?v11) ?hi11 ?hs11 ?hf11 ?hr11 ?hQ11 (Or.inl ⟨?hg11, ?hy11⟩) hHeld ?rest11
      case hi11 => simp only [List.getElem?_toArray, List.getElem?_cons_succ, List.getElem?_cons_zero]; rfl
      case hs11 => kernel_rfl
      case hf11 => kernel_rfl
      case hr11 => kernel_rfl
      case hg11 => rfl
      case hy11 => (intro w hSw; first | (go_simp; done) | (go_simp; with_reducible rfl))
      case hQ11 => exact fun _ _ _ h => h
      try simp only [Act.put, List.setIfInBounds_toArray, List.set_cons_zero, List.set_cons_succ]
      refine wpAnyH_done (by kernel_rfl) ?_ _
      clear hHeld
      have B3 := Lib.hid (B2.out.trans ((Below.refl w2.heap.size w2).drew.mono B2.out.size))
      go_wp2_with fail
      go_ret3
      exact ⟨by rw [K.out]; rfl, B3.out⟩
    · have K := Lib.hid (show X = (none, none, (12 : Int)) by rw [← HX.out, if_neg hk])
      have e1 : (m.kind != 2) = true := by simpa using hk
      clear hk
      go_wp2_with fail
      go_ret3
      exact ⟨by rw [K.out]; rfl, B2.out⟩
end Go.Proofs.YtlbbehfbjbbckaaGreatDoor

/-! What a meta may be (as in the text Ea, without entries). -/
set_option linter.unusedVariables false
set_option linter.unusedSimpArgs false
namespace Go.Proofs.YtlbbehfbjbbckaaGreatDoor
open Go.RowKit

def encM (a b c d e : Int) : List Value := [.int .i64 a, .int .i64 b, .int .i64 c, .int .i64 d, .int .i64 e]
def inB (n lo hi : Int) : Bool := decide (lo ≤ n) && decide (n ≤ hi)
def metaOk (a b c d e : Int) : Bool := inB a 0 4095 && (inB b (-1099511627776) 1099511627776 && (inB c 0 999999999 && (inB d 0 2147483647 && inB e 0 2147483647)))
set_option maxRecDepth 100000 in
theorem metaIn_any (n lo hi : Int) (w : World) : Calls Tryz.prog 151 #[.int .i64 n, .int .i64 lo, .int .i64 hi] w fun e w' => e = .returned (.bool (inB n lo hi)) ∧ w' = w := by
  go_enter Tryz.func151, Tryz.ntmps151
  rcases Int.lt_or_le n lo with h | h
  · have K := Lib.hid (show inB n lo hi = false by unfold inB; rw [decide_eq_false (by omega)]; rfl)
    have h1 : decide (lo ≤ n) = false := decide_eq_false (by omega)
    have h2 : ¬ lo ≤ n := by omega
    clear h
    go_wp2_with fail
    go_ret
    exact ⟨by rw [K.out]; rfl, by trivial⟩
  rcases Int.lt_or_le hi n with h' | h'
  · have K := Lib.hid (show inB n lo hi = false by unfold inB; rw [decide_eq_false (p := n ≤ hi) (by omega)]; simp)
    have h1 : decide (lo ≤ n) = true := decide_eq_true h
    have h2 : ¬ n ≤ hi := by omega
    have h3 : decide (n ≤ hi) = false := decide_eq_false (by omega)
    clear h'
    go_wp2_with fail
    go_ret
    exact ⟨by rw [K.out]; rfl, by trivial⟩
  have K := Lib.hid (show inB n lo hi = true by unfold inB; rw [decide_eq_true h, decide_eq_true h']; rfl)
  have h1 : decide (lo ≤ n) = true := decide_eq_true h
  have h3 : decide (n ≤ hi) = true := decide_eq_true h'
  go_wp2_with fail
  go_ret
  exact ⟨by rw [K.out]; rfl, by trivial⟩
set_option maxRecDepth 100000 in
theorem refIn_any (n lo hi : Int) (w : World) : Calls Tryz.prog 161 #[.int .i64 n, .int .i64 lo, .int .i64 hi] w fun e w' => e = .returned (.bool (inB n lo hi)) ∧ w' = w := by
  go_enter Tryz.func161, Tryz.ntmps161
  rcases Int.lt_or_le n lo with h | h
  · have K := Lib.hid (show inB n lo hi = false by unfold inB; rw [decide_eq_false (by omega)]; rfl)
    have h1 : decide (lo ≤ n) = false := decide_eq_false (by omega)
    have h2 : ¬ lo ≤ n := by omega
    clear h
    go_wp2_with fail
    go_ret
    exact ⟨by rw [K.out]; rfl, by trivial⟩
  rcases Int.lt_or_le hi n with h' | h'
  · have K := Lib.hid (show inB n lo hi = false by unfold inB; rw [decide_eq_false (p := n ≤ hi) (by omega)]; simp)
    have h1 : decide (lo ≤ n) = true := decide_eq_true h
    have h2 : ¬ n ≤ hi := by omega
    have h3 : decide (n ≤ hi) = false := decide_eq_false (by omega)
    clear h'
    go_wp2_with fail
    go_ret
    exact ⟨by rw [K.out]; rfl, by trivial⟩
  have K := Lib.hid (show inB n lo hi = true by unfold inB; rw [decide_eq_true h, decide_eq_true h']; rfl)
  have h1 : decide (lo ≤ n) = true := decide_eq_true h
  have h3 : decide (n ≤ hi) = true := decide_eq_true h'
  go_wp2_with fail
  go_ret
  exact ⟨by rw [K.out]; rfl, by trivial⟩
set_option maxRecDepth 100000 in
set_option maxHeartbeats 1000000 in
theorem metaCheck_any (a b c d f : Int) (w : World) :
    Calls Tryz.prog 125 #[.agg #[.int .i64 a, .int .i64 b, .int .i64 c, .int .i64 d, .int .i64 f]] w fun e w' => e = .returned (.int .i64 (if metaOk a b c d f = true then 0 else 2)) ∧ Below w.heap.size w w' := by
  obtain ⟨X, hX⟩ : ∃ X : Int, (if metaOk a b c d f = true then 0 else 2) = X := ⟨_, rfl⟩
  have HX : Hid ((if (inB a 0 4095 && (inB b (-1099511627776) 1099511627776 && (inB c 0 999999999 && (inB d 0 2147483647 && inB f 0 2147483647)))) = true then 0 else 2) = X) := Lib.hid hX
  rw [hX]
  clear hX
  have hW := (Below.refl w.heap.size w).alloc (Nat.le_refl _) (.cells #[.int .i64 a, .int .i64 b, .int .i64 c, .int .i64 d, .int .i64 f] 53)
  have n0 := Blk.new w 53 [.int .i64 a, .int .i64 b, .int .i64 c, .int .i64 d, .int .i64 f]
  have HW := Lib.hid hW
  have HN := Lib.hid n0
  have H0 := Lib.hid (fun w => metaIn_any a 0 4095 w)
  have H1 := Lib.hid (fun w => metaIn_any b (-1099511627776) 1099511627776 w)
  have H2 := Lib.hid (fun w => metaIn_any c 0 999999999 w)
  have H3 := Lib.hid (fun w => metaIn_any d 0 2147483647 w)
  have H4 := Lib.hid (fun w => metaIn_any f 0 2147483647 w)
  generalize inB a 0 4095 = b0 at *
  generalize inB b (-1099511627776) 1099511627776 = b1 at *
  generalize inB c 0 999999999 = b2 at *
  generalize inB d 0 2147483647 = b3 at *
  generalize inB f 0 2147483647 = b4 at *
  clear hW n0
  go_enter Tryz.func125, Tryz.ntmps125
  go_wp2_with fail
  refine (H0.out _).mono ?_
  rintro e w1 ⟨rfl, rfl⟩
  cases b0 with
  | false =>
    have K := Lib.hid (show X = 2 by rw [← HX.out]; rfl)
    go_wp2_with fail
    go_ret
    exact ⟨by rw [K.out]; rfl, HW.out⟩
  | true =>
  go_wp2_with fail
  refine (H1.out _).mono ?_
  rintro e w1 ⟨rfl, rfl⟩
  cases b1 with
  | false =>
    have K := Lib.hid (show X = 2 by rw [← HX.out]; rfl)
    go_wp2_with fail
    go_ret
    exact ⟨by rw [K.out]; rfl, HW.out⟩
  | true =>
  go_wp2_with fail
  refine (H2.out _).mono ?_
  rintro e w1 ⟨rfl, rfl⟩
  cases b2 with
  | false =>
    have K := Lib.hid (show X = 2 by rw [← HX.out]; rfl)
    go_wp2_with fail
    go_ret
    exact ⟨by rw [K.out]; rfl, HW.out⟩
  | true =>
  go_wp2_with fail
  refine (H3.out _).mono ?_
  rintro e w1 ⟨rfl, rfl⟩
  cases b3 with
  | false =>
    have K := Lib.hid (show X = 2 by rw [← HX.out]; rfl)
    go_wp2_with fail
    go_ret
    exact ⟨by rw [K.out]; rfl, HW.out⟩
  | true =>
  go_wp2_with fail
  refine (H4.out _).mono ?_
  rintro e w1 ⟨rfl, rfl⟩
  cases b4 with
  | false =>
    have K := Lib.hid (show X = 2 by rw [← HX.out]; rfl)
    go_wp2_with fail
    go_ret
    exact ⟨by rw [K.out]; rfl, HW.out⟩
  | true =>
    have K := Lib.hid (show X = 0 by rw [← HX.out]; rfl)
    go_wp2_with fail
    go_ret
    exact ⟨by rw [K.out]; rfl, HW.out⟩
set_option maxRecDepth 100000 in
set_option maxHeartbeats 1000000 in
theorem refMeta_any (a b c d f : Int) (w : World) :
    Calls Tryz.prog 140 #[.agg #[.int .i64 a, .int .i64 b, .int .i64 c, .int .i64 d, .int .i64 f]] w fun e w' => e = .returned (.int .i64 (if metaOk a b c d f = true then 0 else 2)) ∧ Below w.heap.size w w' := by
  obtain ⟨X, hX⟩ : ∃ X : Int, (if metaOk a b c d f = true then 0 else 2) = X := ⟨_, rfl⟩
  have HX : Hid ((if (inB a 0 4095 && (inB b (-1099511627776) 1099511627776 && (inB c 0 999999999 && (inB d 0 2147483647 && inB f 0 2147483647)))) = true then 0 else 2) = X) := Lib.hid hX
  rw [hX]
  clear hX
  have hW := (Below.refl w.heap.size w).alloc (Nat.le_refl _) (.cells #[.int .i64 a, .int .i64 b, .int .i64 c, .int .i64 d, .int .i64 f] 53)
  have n0 := Blk.new w 53 [.int .i64 a, .int .i64 b, .int .i64 c, .int .i64 d, .int .i64 f]
  have HW := Lib.hid hW
  have HN := Lib.hid n0
  have H0 := Lib.hid (fun w => refIn_any a 0 4095 w)
  have H1 := Lib.hid (fun w => refIn_any b (-1099511627776) 1099511627776 w)
  have H2 := Lib.hid (fun w => refIn_any c 0 999999999 w)
  have H3 := Lib.hid (fun w => refIn_any d 0 2147483647 w)
  have H4 := Lib.hid (fun w => refIn_any f 0 2147483647 w)
  generalize inB a 0 4095 = b0 at *
  generalize inB b (-1099511627776) 1099511627776 = b1 at *
  generalize inB c 0 999999999 = b2 at *
  generalize inB d 0 2147483647 = b3 at *
  generalize inB f 0 2147483647 = b4 at *
  clear hW n0
  go_enter Tryz.func140, Tryz.ntmps140
  go_wp2_with fail
  refine (H0.out _).mono ?_
  rintro e w1 ⟨rfl, rfl⟩
  cases b0 with
  | false =>
    have K := Lib.hid (show X = 2 by rw [← HX.out]; rfl)
    go_wp2_with fail
    go_ret
    exact ⟨by rw [K.out]; rfl, HW.out⟩
  | true =>
  go_wp2_with fail
  refine (H1.out _).mono ?_
  rintro e w1 ⟨rfl, rfl⟩
  cases b1 with
  | false =>
    have K := Lib.hid (show X = 2 by rw [← HX.out]; rfl)
    go_wp2_with fail
    go_ret
    exact ⟨by rw [K.out]; rfl, HW.out⟩
  | true =>
  go_wp2_with fail
  refine (H2.out _).mono ?_
  rintro e w1 ⟨rfl, rfl⟩
  cases b2 with
  | false =>
    have K := Lib.hid (show X = 2 by rw [← HX.out]; rfl)
    go_wp2_with fail
    go_ret
    exact ⟨by rw [K.out]; rfl, HW.out⟩
  | true =>
  go_wp2_with fail
  refine (H3.out _).mono ?_
  rintro e w1 ⟨rfl, rfl⟩
  cases b3 with
  | false =>
    have K := Lib.hid (show X = 2 by rw [← HX.out]; rfl)
    go_wp2_with fail
    go_ret
    exact ⟨by rw [K.out]; rfl, HW.out⟩
  | true =>
  go_wp2_with fail
  refine (H4.out _).mono ?_
  rintro e w1 ⟨rfl, rfl⟩
  cases b4 with
  | false =>
    have K := Lib.hid (show X = 2 by rw [← HX.out]; rfl)
    go_wp2_with fail
    go_ret
    exact ⟨by rw [K.out]; rfl, HW.out⟩
  | true =>
    have K := Lib.hid (show X = 0 by rw [← HX.out]; rfl)
    go_wp2_with fail
    go_ret
    exact ⟨by rw [K.out]; rfl, HW.out⟩
end Go.Proofs.YtlbbehfbjbbckaaGreatDoor

/-! What stands at a path, or why not: the program's there, fresh, file, may. -/
set_option linter.unusedVariables false
set_option linter.unusedSimpArgs false
namespace Go.Proofs.YtlbbehfbjbbckaaGreatDoor
open Go.RowKit

def thereU (l : Option Nat × Option Nat × Int) : Option Nat × Option Nat × Int := if l.2.2 = 0 ∧ l.1 = none then (l.1, l.2.1, 10) else l
def freshU (l : Option Nat × Option Nat × Int) : Option Nat × Int := if l.2.2 = 0 ∧ l.1 ≠ none then (l.2.1, 11) else (l.2.1, l.2.2)
theorem Sl.nn {w : World} {A : Option Addr} {n : Nat} {l : List Value} (h : Sl 1 w A n l) : n = l.length := by have := h.len; omega
set_option maxRecDepth 100000 in
set_option maxHeartbeats 4000000 in
theorem there_any (t top c : Nat) (next : Int) (N : Nat → Option Nd) (p : ByteArray) (w : World) (h : TreeAt w t top next c N) (hp : p.size ≤ 2097152) :
    Calls Tryz.prog 74 #[.pointer (some ⟨t, 0, none⟩), .string p] w fun e w' => e = .returned (tupL (thereU (lookN N top p.data.toList))) ∧ Below w.heap.size w w' := by
  have HL := Lib.hid (look_any t top c next N p w h hp)
  clear h
  generalize lookN N top p.data.toList = l at *
  obtain ⟨o, d, er⟩ := l
  obtain ⟨X, hX⟩ : ∃ X, thereU (o, d, er) = X := ⟨_, rfl⟩
  have HX : Hid ((if er = 0 ∧ o = none then (o, d, (10 : Int)) else (o, d, er)) = X) := Lib.hid hX
  rw [hX]
  clear hX
  go_enter Tryz.func74, Tryz.ntmps74
  go_wp2_with fail
  refine HL.out.mono ?_
  rintro e w1 ⟨rfl, hb1⟩
  have HB := Lib.hid hb1
  clear hb1 HL
  unfold tupL
  by_cases he : er = 0
  · subst he
    cases o with
    | none =>
      have K := Lib.hid (show X = (none, d, 10) by rw [← HX.out, if_pos ⟨rfl, rfl⟩])
      rw [show ptrO none = .pointer none from rfl]
      clear HX
      go_wp2_with fail
      go_ret3
      exact ⟨by rw [K.out]; rfl, HB.out⟩
    | some k =>
      have K := Lib.hid (show X = (some k, d, 0) by rw [← HX.out, if_neg (fun h => by cases h.2)])
      rw [show ptrO (some k) = .pointer (some ⟨k, 0, none⟩) from rfl]
      clear HX
      go_wp2_with fail
      go_ret3
      exact ⟨by rw [K.out]; rfl, HB.out⟩
  · have K := Lib.hid (show X = (o, d, er) by rw [← HX.out, if_neg (fun h => he h.1)])
    have e1 : decide (er = 0) = false := decide_eq_false he
    have e2 : (er == 0) = false := by simpa using he
    clear he
    go_wp2_with fail
    go_ret3
    exact ⟨by rw [K.out]; rfl, HB.out⟩
set_option maxRecDepth 100000 in
set_option maxHeartbeats 4000000 in
theorem fresh_any (t top c : Nat) (next : Int) (N : Nat → Option Nd) (p : ByteArray) (w : World) (h : TreeAt w t top next c N) (hp : p.size ≤ 2097152) :
    Calls Tryz.prog 80 #[.pointer (some ⟨t, 0, none⟩), .string p] w fun e w' => e = .returned (.tuple #[ptrO (freshU (lookN N top p.data.toList)).1, .int .i64 (freshU (lookN N top p.data.toList)).2]) ∧ Below w.heap.size w w' := by
  have HL := Lib.hid (look_any t top c next N p w h hp)
  clear h
  generalize lookN N top p.data.toList = l at *
  obtain ⟨o, d, er⟩ := l
  obtain ⟨X, hX⟩ : ∃ X, freshU (o, d, er) = X := ⟨_, rfl⟩
  have HX : Hid ((if er = 0 ∧ o ≠ none then (d, (11 : Int)) else (d, er)) = X) := Lib.hid hX
  rw [hX]
  clear hX
  go_enter Tryz.func80, Tryz.ntmps80
  go_wp2_with fail
  refine HL.out.mono ?_
  rintro e w1 ⟨rfl, hb1⟩
  have HB := Lib.hid hb1
  clear hb1 HL
  unfold tupL
  by_cases he : er = 0
  · subst he
    cases o with
    | none =>
      have K := Lib.hid (show X = (d, 0) by rw [← HX.out, if_neg (fun h => h.2 rfl)])
      rw [show ptrO none = .pointer none from rfl]
      clear HX
      go_wp2_with fail
      go_ret2
      exact ⟨by rw [K.out]; rfl, HB.out⟩
    | some k =>
      have K := Lib.hid (show X = (d, 11) by rw [← HX.out, if_pos ⟨rfl, fun h => by cases h⟩])
      rw [show ptrO (some k) = .pointer (some ⟨k, 0, none⟩) from rfl]
      clear HX
      go_wp2_with fail
      go_ret2
      exact ⟨by rw [K.out]; rfl, HB.out⟩
  · have K := Lib.hid (show X = (d, er) by rw [← HX.out, if_neg (fun h => he h.1)])
    have e1 : decide (er = 0) = false := decide_eq_false he
    have e2 : (er == 0) = false := by simpa using he
    clear he
    go_wp2_with fail
    go_ret2
    exact ⟨by rw [K.out]; rfl, HB.out⟩
def fileU (k : Int) : Int := if k = 2 then 13 else if k = 3 then 17 else 0
set_option maxRecDepth 100000 in
set_option maxHeartbeats 1000000 in
theorem file_any (i : Nat) (n : Nd) (w : World) (h : Blk w i 111 (encN n)) :
    Calls Tryz.prog 87 #[ptrN i] w fun e w' => e = .returned (.int .i64 (fileU n.kind)) ∧ w' = w := by
  obtain ⟨n0, _⟩ := node_cells h
  obtain ⟨X, hX⟩ : ∃ X : Int, fileU n.kind = X := ⟨_, rfl⟩
  have HX : Hid ((if n.kind = 2 then (13 : Int) else if n.kind = 3 then 17 else 0) = X) := Lib.hid hX
  rw [hX]
  clear hX h
  generalize n.kind = k at *
  unfold ptrN
  go_enter Tryz.func87, Tryz.ntmps87
  by_cases h2 : k = 2
  · subst h2
    have K := Lib.hid (show X = 13 from HX.out.symm)
    go_wp2_with fail
    go_ret
    exact ⟨by rw [K.out]; rfl, by trivial⟩
  by_cases h3 : k = 3
  · subst h3
    have K := Lib.hid (show X = 17 from HX.out.symm)
    go_wp2_with fail
    go_ret
    exact ⟨by rw [K.out]; rfl, by trivial⟩
  have K := Lib.hid (show X = 0 by rw [← HX.out, if_neg h2, if_neg h3])
  have e2 : (k == 2) = false := by simpa using h2
  have e3 : (k == 3) = false := by simpa using h3
  clear h2 h3
  go_wp2_with fail
  go_ret
  exact ⟨by rw [K.out]; rfl, by trivial⟩
structure Mt where
  m0 : Int
  m1 : Int
  m2 : Int
  m3 : Int
  m4 : Int
def aggM (m : Mt) : Value := .agg #[.int .i64 m.m0, .int .i64 m.m1, .int .i64 m.m2, .int .i64 m.m3, .int .i64 m.m4]
def okM (m : Mt) : Bool := metaOk m.m0 m.m1 m.m2 m.m3 m.m4
def mayU (p : List UInt8) (m : Mt) : Int := if rightB p = false then 9 else if okM m = true then 0 else 2
set_option maxRecDepth 100000 in
set_option maxHeartbeats 1000000 in
theorem may_any (t : Nat) (p : ByteArray) (m : Mt) (w : World) (hp : p.size ≤ 2097152) :
    Calls Tryz.prog 79 #[.pointer (some ⟨t, 0, none⟩), .string p, aggM m] w fun e w' => e = .returned (.int .i64 (mayU p.data.toList m)) ∧ Below w.heap.size w w' := by
  obtain ⟨X, hX⟩ : ∃ X : Int, mayU p.data.toList m = X := ⟨_, rfl⟩
  obtain ⟨a, b, c, d, f⟩ := m
  have HX : Hid ((if rightB p.data.toList = false then (9 : Int) else if metaOk a b c d f = true then 0 else 2) = X) := Lib.hid hX
  rw [hX]
  clear hX
  have hb0 := (Below.refl w.heap.size w).alloc (Nat.le_refl _) (.cells #[.int .i64 a, .int .i64 b, .int .i64 c, .int .i64 d, .int .i64 f] 53)
  have b0 := Blk.new w 53 [.int .i64 a, .int .i64 b, .int .i64 c, .int .i64 d, .int .i64 f]
  have HR := Lib.hid (fun w => right_any p _ w rfl hp)
  have HM := Lib.hid (fun w => metaCheck_any a b c d f w)
  generalize rightB p.data.toList = rb at *
  generalize metaOk a b c d f = mo at *
  have B0 := Lib.hid b0
  have HB0 := Lib.hid hb0
  clear b0 hb0
  unfold aggM
  go_enter Tryz.func79, Tryz.ntmps79
  go_wp2_with fail
  generalize w.alloc _ = wa at *
  refine (HR.out _).mono ?_
  rintro e w1 ⟨rfl, hb1⟩
  have HB1 := Lib.hid (HB0.out.trans (hb1.mono HB0.out.size))
  have x := B0.out.below hb1
  have h0 := x.cell 0
  have h1 := x.cell 1
  have h2 := x.cell 2
  have h3 := x.cell 3
  have h4 := x.cell 4
  simp only [List.getElem?_cons_zero, List.getElem?_cons_succ] at h0 h1 h2 h3 h4
  clear hb1 x HB0 B0 HR
  cases rb with
  | false =>
    have K := Lib.hid (show X = 9 from HX.out.symm)
    go_wp2_with fail
    go_ret
    exact ⟨by rw [K.out]; rfl, HB1.out⟩
  | true =>
    have HX := Lib.hid (show (if mo = true then (0 : Int) else 2) = X from HX.out)
    go_wp2_with fail
    refine (HM.out _).mono ?_
    rintro e w2 ⟨rfl, hb2⟩
    have HB2 := Lib.hid (HB1.out.trans (hb2.mono HB1.out.size))
    clear hb2 HB1
    cases mo with
    | false =>
      have K := Lib.hid (show X = 2 from HX.out.symm)
      go_wp2_with fail
      go_ret
      exact ⟨by rw [K.out]; rfl, HB2.out⟩
    | true =>
      have K := Lib.hid (show X = 0 from HX.out.symm)
      go_wp2_with fail
      go_ret
      exact ⟨by rw [K.out]; rfl, HB2.out⟩
end Go.Proofs.YtlbbehfbjbbckaaGreatDoor

/-! Steps of a region that draws its order: a whole row's store, a map's store, an append. -/
set_option linter.unusedVariables false
set_option linter.unusedSimpArgs false
namespace Go.Proofs.YtlbbehfbjbbckaaGreatDoor
open Go.RowKit

theorem step_append_run {P : Program} {w w' : World} {ops : Array Oper} {o : Oper} {a : Act} {K : Act → World → Prop} {Q : Exit → Act → World → Prop} {E : Prop} (hgd : o.guard = none) (s x : Operand) (t u : TypeId)
    (ho : o.op = .call { callee := .builtin .append, args := #[s, x], argTypes := #[t, u] }) {v sv xv : Value} (hs : a.eval s = sv) (hx : a.eval x = xv)
    (hr : (Builtin.append_ #[t, u] o.type #[sv, xv]).run P w = .ok v w')
    (h : K (a.put o.dst v) w') :
    if Region.wanted o (yielded ops a.tmps) = true then Oper.wp P o a w K Q else E := by
  have hw : Region.wanted o (yielded ops a.tmps) = true := by simp [Region.wanted, hgd]
  rw [if_pos hw]
  unfold Oper.wp execOp
  simp only [ho, resolve, invoke, builtin, Sem.run_bind, Sem.run_pure, Result.andThen_ok, List.map_toArray, List.map_cons, List.map_nil, hs, hx, hr]
  exact h
theorem step_store_row {P : Program} {w : World} {ops : Array Oper} {o : Oper} {a : Act} {K : Act → World → Prop} {Q : Exit → Act → World → Prop} {E : Prop} (hgd : o.guard = none) (ty : TypeId) (x y : Operand) (ho : o.op = .store ty x y)
    (g : Nat) (cells old : Array Value) (t : TypeId) (hx : a.eval x = .pointer (some ⟨g, 0, none⟩)) (hy : a.eval y = .agg cells)
    (hg : w.heap[g]? = some (.cells old t (0, 0))) (hi : (P.info? ty).map (·.size) = some cells.size) (hs : old.size = cells.size) (h1 : cells.all (·.oneCell') = true)
    (h : K (a.put o.dst undef) (w.setRow g cells)) :
    if Region.wanted o (yielded ops a.tmps) = true then Oper.wp P o a w K Q else E := by
  have hw : Region.wanted o (yielded ops a.tmps) = true := by simp [Region.wanted, hgd]
  rw [if_pos hw]
  unfold Oper.wp execOp
  simp only [ho, hx, hy, Instr.storeAt, Instr.sureAddr, Sem.run_bind, Sem.run_pure, Result.andThen_ok, run_storeVar_row w g t ty old cells hg hi hs h1]
  exact h
theorem step_lookup {P : Program} {w w' : World} {ops : Array Oper} {o : Oper} {a : Act} {K : Act → World → Prop} {Q : Exit → Act → World → Prop} {E : Prop} (hgd : o.guard = none) (t : TypeId) (m k : Operand) (c : Bool) (ho : o.op = .lookup t m k c)
    {mv kv v : Value} (hm : a.eval m = mv) (hk : a.eval k = kv) (hr : (Instr.lookup t mv kv c).run P w = .ok v w')
    (h : K (a.put o.dst v) w') :
    if Region.wanted o (yielded ops a.tmps) = true then Oper.wp P o a w K Q else E := by
  have hw : Region.wanted o (yielded ops a.tmps) = true := by simp [Region.wanted, hgd]
  rw [if_pos hw]
  unfold Oper.wp
  simp only [execOp, ho, hm, hk, Sem.run_bind, Sem.run_pure, Result.andThen_ok, hr, Result.andThen]
  exact h
theorem step_mapUpdate {P : Program} {w w' : World} {ops : Array Oper} {o : Oper} {a : Act} {K : Act → World → Prop} {Q : Exit → Act → World → Prop} {E : Prop} (hgd : o.guard = none) (t : TypeId) (m k x : Operand) (ho : o.op = .mapUpdate t m k x)
    {mv kv xv : Value} (hm : a.eval m = mv) (hk : a.eval k = kv) (hx : a.eval x = xv) (hr : (Instr.mapUpdate t mv kv xv).run P w = .ok () w')
    (h : K (a.put o.dst undef) w') :
    if Region.wanted o (yielded ops a.tmps) = true then Oper.wp P o a w K Q else E := by
  have hw : Region.wanted o (yielded ops a.tmps) = true := by simp [Region.wanted, hgd]
  rw [if_pos hw]
  unfold Oper.wp
  simp only [execOp, ho, hm, hk, hx, Sem.run_bind, Sem.run_pure, Result.andThen_ok, hr, Result.andThen]
  exact h
end Go.Proofs.YtlbbehfbjbbckaaGreatDoor

/-! A tree that is changed: a new thing is put into a directory. -/
set_option linter.unusedVariables false
set_option linter.unusedSimpArgs false
namespace Go.Proofs.YtlbbehfbjbbckaaGreatDoor
open Go.RowKit

/-- Nothing but some blocks has changed. -/
structure Only (P : Nat → Prop) (w w' : World) : Prop where
  os : w'.os = w.os
  tape : w'.tape = w.tape
  output : w'.output = w.output
  size : w.heap.size ≤ w'.heap.size
  block : ∀ k, k < w.heap.size → ¬ P k → w'.heap[k]? = w.heap[k]?
theorem Only.refl (P : Nat → Prop) (w : World) : Only P w w := ⟨rfl, rfl, rfl, Nat.le_refl _, fun _ _ _ => rfl⟩
theorem Only.trans {P : Nat → Prop} {a b c : World} (h : Only P a b) (k : Only P b c) : Only P a c :=
  ⟨k.os.trans h.os, k.tape.trans h.tape, k.output.trans h.output, Nat.le_trans h.size k.size, fun i hi hp => (k.block i (Nat.lt_of_lt_of_le hi h.size) hp).trans (h.block i hi hp)⟩
theorem Only.mono {P P' : Nat → Prop} {a b : World} (h : Only P a b) (hp : ∀ k, k < a.heap.size → P k → P' k) : Only P' a b :=
  ⟨h.os, h.tape, h.output, h.size, fun i hi hn => h.block i hi (fun hk => hn (hp i hi hk))⟩
theorem Only.of {P : Nat → Prop} {a b : World} (h : Below a.heap.size a b) : Only P a b := ⟨h.os, h.tape, h.output, h.size, fun i hi _ => h.block i hi⟩
theorem Only.below {P : Nat → Prop} {a b : World} {B : Nat} (h : Only P a b) (hB : B ≤ a.heap.size) (hp : ∀ k, P k → B ≤ k) : Below B a b := ⟨h.os, h.tape, h.output, h.size, fun i hi => h.block i (Nat.lt_of_lt_of_le hi hB) (fun hk => by have := hp i hk; omega)⟩
theorem Only.grown {P : Nat → Prop} {a b : World} {r : Nat} (h : a.grownBy b (some r)) (hp : P r) : Only P a b :=
  ⟨h.os, h.tape, h.output, h.size, fun i hi hn => h.block i hi (fun e => hn (by cases e; exact hp))⟩
theorem Only.set {P : Nat → Prop} (w : World) (a : Addr) (v : Value) (hp : P a.block) : Only P w (w.setCell a v) :=
  ⟨rfl, rfl, rfl, by simp [World.setCell], fun k hk hn => Below.heap_setCell _ _ _ _ (fun e => hn (e ▸ hp))⟩
theorem Blk.heap {w w' : World} {g : Nat} {T : TypeId} {cs : List Value} (h : Blk w g T cs) (hh : w'.heap[g]? = w.heap[g]?) : Blk w' g T cs := hh.trans h
theorem Sl.heap1 {w w' : World} {A : Option Addr} {n : Nat} {l : List Value} (h : Sl 1 w A n l) (hh : ∀ a, A = some a → w'.heap[a.block]? = w.heap[a.block]?) : Sl 1 w' A n l :=
  ⟨h.len, h.max, by
    rcases h.at_ with h0 | ⟨b, o, rfl, hc⟩
    · exact .inl h0
    · exact .inr ⟨b, o, rfl, fun j v hj => (World.cell?_of_block (a := ⟨b, o + j, none⟩) (hh ⟨b, o, none⟩ rfl)).trans (hc j v hj)⟩⟩
theorem MapAt.heap {w w1 : World} {b n : Nat} {f : List UInt8 → Option Value} (h : MapAt w b n f) (hh : w1.heap[b]? = w.heap[b]?) : MapAt w1 b n f := by
  obtain ⟨D, ⟨es, clock, he, F, hs, hD⟩, h2⟩ := h
  exact ⟨D, ⟨es, clock, hh.trans he, F, hs, hD⟩, h2⟩
theorem MapAt.obj {w : World} {b n : Nat} {f : List UInt8 → Option Value} (h : MapAt w b n f) : ∃ es cl, w.heap[b]? = some (.map es cl) := by
  obtain ⟨D, ⟨es, clock, he, F, hs, hD⟩, h2⟩ := h
  exact ⟨es, clock, he⟩
theorem MapAt.ne {w : World} {b n g : Nat} {f : List UInt8 → Option Value} {T : TypeId} {cs : List Value} (h : MapAt w b n f) (hb : Blk w g T cs) : g ≠ b := by
  rintro rfl
  obtain ⟨es, cl, he⟩ := h.obj
  have e := Eq.trans (Eq.symm he) hb
  cases e
/-- The blocks that a tree holds, but its own. -/
def heldT (N : Nat → Option Nd) (k : Nat) : Prop := (∃ n, N k = some n) ∨ (∃ i n a, N i = some n ∧ n.dA = some a ∧ a.block = k) ∨ ∃ i n, N i = some n ∧ n.kb = some k
theorem TreeAt.heap {w w' : World} {t top c : Nat} {next next' : Int} {N : Nat → Option Nd} (h : TreeAt w t top next c N) (ht : Blk w' t 101 [ptrN top, .int .i64 next']) (hh : ∀ k, heldT N k → w'.heap[k]? = w.heap[k]?) : TreeAt w' t top next' c N :=
  ⟨ht, fun i n hi => (h.node i n hi).heap (hh i (.inl ⟨n, hi⟩)), fun i n hi => ⟨(h.data i n hi).1.heap1 (fun a ha => hh _ (.inr (.inl ⟨i, n, a, hi, ha, rfl⟩))), fun a ha => by
    obtain ⟨cs, hc⟩ := (h.data i n hi).2 a ha
    exact ⟨cs, (hh _ (.inr (.inl ⟨i, n, a, hi, ha, rfl⟩))).trans hc⟩⟩, fun i n b hi hk => (h.kids i n b hi hk).heap (hh b (.inr (.inr ⟨i, n, hi, hk⟩))), h.bare, h.apart, h.closed, h.root, h.dirs, h.room⟩
theorem TreeAt.mono {w : World} {t top c c' : Nat} {next : Int} {N : Nat → Option Nd} (h : TreeAt w t top next c N) (hc : c ≤ c') : TreeAt w t top next c' N :=
  ⟨h.tree, h.node, h.data, fun i n b hi hk => (h.kids i n b hi hk).mono hc, h.bare, h.apart, h.closed, h.root, h.dirs, h.room⟩
/-- A block of things that is none of the tree's is no block of the tree. -/
theorem TreeAt.free {w : World} {t top c : Nat} {next : Int} {N : Nat → Option Nd} (h : TreeAt w t top next c N) {g : Nat} {T : TypeId} {cs : List Value} (hg : Blk w g T cs) (hT : T ≠ 5) (hn : N g = none) : ¬ heldT N g := by
  rintro (⟨n, hi⟩ | ⟨i, n, a, hi, ha, rfl⟩ | ⟨i, n, hi, hk⟩)
  · rw [hn] at hi; cases hi
  · obtain ⟨cs', hc⟩ := (h.data i n hi).2 a ha
    have e := Eq.trans (Eq.symm hc) hg
    simp only [Option.some.injEq, Obj.cells.injEq] at e
    exact hT e.2.1.symm
  · exact (h.kids i n g hi hk).ne hg rfl
theorem TreeAt.tree_free {w : World} {t top c : Nat} {next : Int} {N : Nat → Option Nd} (h : TreeAt w t top next c N) : ¬ heldT N t :=
  h.free h.tree (by decide) (by
    cases hn : N t with
    | none => rfl
    | some n => exact absurd rfl ((h.node t n hn).ne h.tree (by decide)))
/-- A new thing, put into a directory. -/
def kidsAdd (k : List UInt8 → Option Nat) (s : List UInt8) (n : Nat) : List UInt8 → Option Nat := fun y => if y = s then some n else k y
def addN (N : Nat → Option Nd) (d n : Nat) (x : Nd) (s : List UInt8) : Nat → Option Nd := fun i => if i = n then some x else if i = d then (N d).map (fun m => { m with kids := kidsAdd m.kids s n }) else N i
theorem addN_new (N : Nat → Option Nd) (d n : Nat) (x : Nd) (s : List UInt8) : addN N d n x s n = some x := if_pos rfl
theorem addN_dir {N : Nat → Option Nd} {d n : Nat} (x : Nd) (s : List UInt8) {m : Nd} (hm : N d = some m) (hne : d ≠ n) : addN N d n x s d = some { m with kids := kidsAdd m.kids s n } := by unfold addN; rw [if_neg hne, if_pos rfl, hm]; rfl
theorem addN_old {N : Nat → Option Nd} {d n i : Nat} (x : Nd) (s : List UInt8) (h1 : i ≠ n) (h2 : i ≠ d) : addN N d n x s i = N i := by unfold addN; rw [if_neg h1, if_neg h2]
theorem addN_some {N : Nat → Option Nd} {d n i : Nat} {x m' : Nd} {s : List UInt8} (h : addN N d n x s i = some m') :
    (i = n ∧ m' = x) ∨ (i ≠ n ∧ ∃ m, N i = some m ∧ encN m' = encN m ∧ m'.dA = m.dA ∧ m'.dn = m.dn ∧ m'.data = m.data ∧ m'.kb = m.kb ∧ m'.kind = m.kind ∧ ((i = d ∧ m'.kids = kidsAdd m.kids s n) ∨ (i ≠ d ∧ m'.kids = m.kids))) := by
  unfold addN at h
  by_cases h1 : i = n
  · rw [if_pos h1, Option.some.injEq] at h; exact .inl ⟨h1, h.symm⟩
  rw [if_neg h1] at h
  by_cases h2 : i = d
  · subst h2
    rw [if_pos rfl] at h
    cases hm : N i with
    | none => rw [hm] at h; cases h
    | some m =>
      rw [hm] at h
      simp only [Option.map_some, Option.some.injEq] at h
      subst h
      exact .inr ⟨h1, m, rfl, rfl, rfl, rfl, rfl, rfl, rfl, .inl ⟨rfl, rfl⟩⟩
  · rw [if_neg h2] at h
    exact .inr ⟨h1, m', h, rfl, rfl, rfl, rfl, rfl, rfl, .inr ⟨h2, rfl⟩⟩
theorem addN_is {N : Nat → Option Nd} {d n i : Nat} {m : Nd} (x : Nd) (s : List UInt8) (h : N i = some m) : ∃ m', addN N d n x s i = some m' ∧ (i ≠ n → m'.kind = m.kind) := by
  by_cases h1 : i = n
  · subst h1; exact ⟨x, addN_new .., fun e => absurd rfl e⟩
  by_cases h2 : i = d
  · subst h2; exact ⟨_, addN_dir x s h h1, fun _ => rfl⟩
  · exact ⟨m, (addN_old x s h1 h2).trans h, fun _ => rfl⟩
/-- What a new thing holds, ahead of being put. -/
structure NewAt (w : World) (n c : Nat) (x : Nd) (N : Nat → Option Nd) : Prop where
  blk : Blk w n 111 (encN x)
  data : Sl 1 w x.dA x.dn (bys x.data) ∧ ∀ a, x.dA = some a → ∃ cs, w.heap[a.block]? = some (.cells cs 5 (0, 0))
  kids : ∀ s, x.kids s = none
  map : ∀ b, x.kb = some b → MapAt w b c (fun _ => none) ∧ ∀ i m, N i = some m → m.kb ≠ some b
  dir : x.kind = 2 → x.kb ≠ none
  room : x.dn ≤ x.dc
  not : N n = none
theorem TreeAt.put {w w' : World} {t top c d n b : Nat} {next : Int} {N : Nat → Option Nd} {x m : Nd} {s : List UInt8} (h : TreeAt w t top next c N) (hx : NewAt w n c x N) (hd : N d = some m) (hk : m.kb = some b)
    (hm : MapAt w' b (c + 1) (updM (fun y => (m.kids y).map ptrN) s (ptrN n))) (hg : w.grownBy w' (some b)) : TreeAt w' t top next (c + 1) (addN N d n x s) := by
  have hdn : d ≠ n := fun e => by rw [e, hx.not] at hd; cases hd
  have hb := h.kids d m b hd hk
  have hoth : ∀ {g : Nat} {T : TypeId} {cs : List Value}, Blk w g T cs → Blk w' g T cs := fun hB => hB.grown hg (fun e => hb.ne hB (by cases e; rfl))
  have hdat : ∀ {a : Addr} {cs : Array Value}, w.heap[a.block]? = some (.cells cs 5 (0, 0)) → w'.heap[a.block]? = w.heap[a.block]? := fun {a cs} hc => hg.block _ (Array.getElem?_eq_some_iff.1 hc).1 (fun e => by
    obtain ⟨es, cl, he⟩ := hb.obj
    cases e
    rw [hc] at he; cases he)
  have hmap : ∀ {k cc : Nat} {f : List UInt8 → Option Value}, MapAt w k cc f → k ≠ b → MapAt w' k cc f := fun hM hne => hM.grown hg (fun e => hne (by cases e; rfl))
  refine ⟨hoth h.tree, fun i m' hi => ?_, fun i m' hi => ?_, fun i m' k hi hk' => ?_, fun i m' hi hk' => ?_, fun i j m1 m2 k hi hj h1 h2 => ?_, fun i m' y j hi hy => ?_, ?_, fun i m' hi h2 => ?_, fun i m' hi => ?_⟩
  · rcases addN_some hi with ⟨rfl, rfl⟩ | ⟨h1, m0, hm0, e1, e2, e3, e4, e5, e6, e7⟩
    · exact hoth hx.blk
    · rw [e1]; exact hoth (h.node i m0 hm0)
  · rcases addN_some hi with ⟨rfl, rfl⟩ | ⟨h1, m0, hm0, e1, e2, e3, e4, e5, e6, e7⟩
    · exact ⟨hx.data.1.heap1 (fun a ha => by obtain ⟨cs, hc⟩ := hx.data.2 a ha; exact hdat hc), fun a ha => by obtain ⟨cs, hc⟩ := hx.data.2 a ha; exact ⟨cs, (hdat hc).trans hc⟩⟩
    · rw [e2, e3, e4]
      exact ⟨(h.data i m0 hm0).1.heap1 (fun a ha => by obtain ⟨cs, hc⟩ := (h.data i m0 hm0).2 a ha; exact hdat hc), fun a ha => by obtain ⟨cs, hc⟩ := (h.data i m0 hm0).2 a ha; exact ⟨cs, (hdat hc).trans hc⟩⟩
  · rcases addN_some hi with ⟨rfl, rfl⟩ | ⟨h1, m0, hm0, e1, e2, e3, e4, e5, e6, ⟨rfl, e7⟩ | ⟨h2, e7⟩⟩
    · obtain ⟨hM, hne⟩ := hx.map k hk'
      have := (hmap hM (fun e => hne d m hd (by rw [hk, e]))).mono (Nat.le_succ c)
      rwa [show (fun s => (m'.kids s).map ptrN) = fun _ => none from funext fun s => by rw [hx.kids s]; rfl]
    · rw [hd, Option.some.injEq] at hm0
      subst hm0
      rw [e5, hk, Option.some.injEq] at hk'
      subst hk'
      rwa [show (fun y => (m'.kids y).map ptrN) = updM (fun y => (m.kids y).map ptrN) s (ptrN n) from funext fun y => by
        rw [e7]; unfold kidsAdd updM
        by_cases hy : y = s
        · rw [if_pos hy, if_pos hy]; rfl
        · rw [if_neg hy, if_neg hy]]
    · rw [e5] at hk'
      rw [e7]
      exact (hmap (h.kids i m0 k hm0 hk') (fun e => h2 (h.apart i d m0 m b hm0 hd (by rw [hk', e]) hk))).mono (Nat.le_succ c)
  · rcases addN_some hi with ⟨rfl, rfl⟩ | ⟨h1, m0, hm0, e1, e2, e3, e4, e5, e6, ⟨rfl, e7⟩ | ⟨h2, e7⟩⟩
    · exact hx.kids
    · rw [hd, Option.some.injEq] at hm0
      subst hm0
      rw [e5, hk] at hk'; cases hk'
    · rw [e7]; exact h.bare i m0 hm0 (by rw [← e5]; exact hk')
  · rcases addN_some hi with ⟨rfl, rfl⟩ | ⟨g1, a0, ha0, e1, e2, e3, e4, e5, e6, e7⟩
    · rcases addN_some hj with ⟨rfl, rfl⟩ | ⟨g2, b0, hb0, f1, f2, f3, f4, f5, f6, f7⟩
      · rfl
      · rw [f5] at h2
        exact absurd h2 ((hx.map k h1).2 j b0 hb0)
    · rcases addN_some hj with ⟨rfl, rfl⟩ | ⟨g2, b0, hb0, f1, f2, f3, f4, f5, f6, f7⟩
      · rw [e5] at h1
        exact absurd h1 ((hx.map k h2).2 i a0 ha0)
      · exact h.apart i j a0 b0 k ha0 hb0 (by rw [← e5]; exact h1) (by rw [← f5]; exact h2)
  · rcases addN_some hi with ⟨rfl, rfl⟩ | ⟨h1, m0, hm0, e1, e2, e3, e4, e5, e6, ⟨rfl, e7⟩ | ⟨h2, e7⟩⟩
    · rw [hx.kids y] at hy; cases hy
    · rw [e7] at hy
      unfold kidsAdd at hy
      by_cases hys : y = s
      · rw [if_pos hys, Option.some.injEq] at hy
        subst hy
        exact ⟨x, addN_new ..⟩
      · rw [if_neg hys] at hy
        obtain ⟨q, hq⟩ := h.closed i m0 y j hm0 hy
        obtain ⟨q', hq', _⟩ := addN_is (d := i) (n := n) x s hq
        exact ⟨q', hq'⟩
    · rw [e7] at hy
      obtain ⟨q, hq⟩ := h.closed i m0 y j hm0 hy
      obtain ⟨q', hq', _⟩ := addN_is (d := d) (n := n) x s hq
      exact ⟨q', hq'⟩
  · obtain ⟨r, hr, hr2⟩ := h.root
    obtain ⟨q, hq, hq2⟩ := addN_is (d := d) (n := n) x s hr
    exact ⟨q, hq, (hq2 (fun e => by rw [e, hx.not] at hr; cases hr)).trans hr2⟩
  · rcases addN_some hi with ⟨rfl, rfl⟩ | ⟨h1, m0, hm0, e1, e2, e3, e4, e5, e6, e7⟩
    · exact hx.dir h2
    · rw [e5]; exact h.dirs i m0 hm0 (by rw [← e6]; exact h2)
  · rcases addN_some hi with ⟨rfl, rfl⟩ | ⟨h1, m0, hm0, e1, e2, e3, e4, e5, e6, e7⟩
    · exact hx.room
    · have e := congrArg (fun l => l[10]?) e1
      simp only [encN, List.getElem?_cons_succ, List.getElem?_cons_zero, Option.some.injEq, Value.slice.injEq] at e
      rw [e.2.1, e.2.2]; exact h.room i m0 hm0
end Go.Proofs.YtlbbehfbjbbckaaGreatDoor

/-! A new thing is put into a directory: the program's put. -/
set_option linter.unusedVariables false
set_option linter.unusedSimpArgs false
namespace Go.Proofs.YtlbbehfbjbbckaaGreatDoor
open Go.RowKit

theorem NewAt.moved {w w' : World} {n c : Nat} {x x' : Nd} {N : Nat → Option Nd} (h : NewAt w n c x N) (hb : Blk w' n 111 (encN x')) (e1 : x'.dA = x.dA) (e2 : x'.dn = x.dn) (e3 : x'.data = x.data) (e4 : x'.kb = x.kb) (e5 : x'.kids = x.kids) (e6 : x'.kind = x.kind) (e7 : x'.dc = x.dc)
    (hh : ∀ k, k < w.heap.size → (∀ cs, ¬ Blk w k 111 cs) → (∀ cs, ¬ Blk w k 101 cs) → w'.heap[k]? = w.heap[k]?) : NewAt w' n c x' N := by
  have hd : ∀ {a : Addr} {cs : Array Value}, w.heap[a.block]? = some (.cells cs 5 (0, 0)) → w'.heap[a.block]? = w.heap[a.block]? := fun {a cs} hc => hh _ (Array.getElem?_eq_some_iff.1 hc).1 (fun ds hB => by
    have e := Eq.trans (Eq.symm hc) hB
    simp only [Option.some.injEq, Obj.cells.injEq] at e
    exact absurd e.2.1 (by decide)) (fun ds hB => by
    have e := Eq.trans (Eq.symm hc) hB
    simp only [Option.some.injEq, Obj.cells.injEq] at e
    exact absurd e.2.1 (by decide))
  refine ⟨hb, ⟨?_, fun a ha => ?_⟩, fun s => by rw [e5]; exact h.kids s, fun b hb' => ?_, fun hk => by rw [e4]; exact h.dir (by rw [← e6]; exact hk), by rw [e2, e7]; exact h.room, h.not⟩
  · rw [e1, e2, e3]; exact h.data.1.heap1 (fun a ha => by obtain ⟨cs, hc⟩ := h.data.2 a ha; exact hd hc)
  · obtain ⟨cs, hc⟩ := h.data.2 a (by rw [← e1]; exact ha)
    exact ⟨cs, (hd hc).trans hc⟩
  · obtain ⟨hM, hne⟩ := h.map b (by rw [← e4]; exact hb')
    exact ⟨hM.heap (hh b hM.lt (fun cs hB => (hM.ne hB) rfl) (fun cs hB => (hM.ne hB) rfl)), hne⟩
theorem ptrO_some (i : Nat) : ptrO (some i) = ptrN i := rfl
set_option maxRecDepth 100000 in
set_option maxHeartbeats 4000000 in
theorem put_any (t top c d n b : Nat) (next : Int) (N : Nat → Option Nd) (m x : Nd) (p : ByteArray) (w : World) (h : TreeAt w t top next c N) (hx : NewAt w n c x N) (hd : N d = some m) (hkb : m.kb = some b)
    (hp : p.size ≤ 2097152) (hn0 : 0 ≤ next) (hn1 : next ≤ 1099511627776) (hc : c ≤ 1099511627776) :
    Calls Tryz.prog 81 #[.pointer (some ⟨t, 0, none⟩), ptrN d, .string p, ptrN n] w fun e w' => e = .returned (.tuple #[]) ∧ TreeAt w' t top (next + 1) (c + 1) (addN N d n { x with ino := next, links := 1 } (baseB p.data.toList)) ∧ Only (fun k => k = t ∨ k = n ∨ k = b) w w' := by
  have hdn : d ≠ n := fun e => by rw [e, hx.not] at hd; cases hd
  have htn : t ≠ n := h.tree.ne hx.blk (by decide)
  have htd : t ≠ d := h.tree.ne (h.node d m hd) (by decide)
  have w1b := hx.blk.set 1 (.int .i64 next)
  have w2b := w1b.set 3 (.int .i64 1)
  have w3b : Blk (((w.setCell ⟨n, 1, none⟩ (.int .i64 next)).setCell ⟨n, 3, none⟩ (.int .i64 1)).setCell ⟨t, 1, none⟩ (.int .i64 (next + 1))) n 111 (encN { x with ino := next, links := 1 }) := w2b.other (a := ⟨t, 1, none⟩) (fun e => htn e.symm) _
  have t3b : Blk (((w.setCell ⟨n, 1, none⟩ (.int .i64 next)).setCell ⟨n, 3, none⟩ (.int .i64 1)).setCell ⟨t, 1, none⟩ (.int .i64 (next + 1))) t 101 [ptrN top, .int .i64 (next + 1)] := ((h.tree.other (a := ⟨n, 1, none⟩) htn _).other (a := ⟨n, 3, none⟩) htn _).set 1 _
  have hO : Only (fun k => k = t ∨ k = n ∨ k = b) w (((w.setCell ⟨n, 1, none⟩ (.int .i64 next)).setCell ⟨n, 3, none⟩ (.int .i64 1)).setCell ⟨t, 1, none⟩ (.int .i64 (next + 1))) := ((Only.set w ⟨n, 1, none⟩ _ (.inr (.inl rfl))).trans (Only.set _ ⟨n, 3, none⟩ _ (.inr (.inl rfl)))).trans (Only.set _ ⟨t, 1, none⟩ _ (.inl rfl))
  have hsame : ∀ k, k ≠ n → k ≠ t → (((w.setCell ⟨n, 1, none⟩ (.int .i64 next)).setCell ⟨n, 3, none⟩ (.int .i64 1)).setCell ⟨t, 1, none⟩ (.int .i64 (next + 1))).heap[k]? = w.heap[k]? := fun k h1 h2 => by
    rw [Below.heap_setCell _ _ _ _ h2, Below.heap_setCell _ _ _ _ h1, Below.heap_setCell _ _ _ _ h1]
  have T3 := Lib.hid (h.heap t3b (fun k hk => hsame k (fun e => h.free hx.blk (by decide) hx.not (e ▸ hk)) (fun e => h.tree_free (e ▸ hk))))
  have X3 := Lib.hid (hx.moved (x' := { x with ino := next, links := 1 }) w3b rfl rfl rfl rfl rfl rfl rfl (fun k _ h1 h2 => hsame k (fun e => h1 _ (e ▸ hx.blk)) (fun e => h2 _ (e ▸ h.tree))))
  have HO := Lib.hid hO
  have f1 := hx.blk.frozen 1
  have c1 := hx.blk.cell 1
  have f3 := w1b.frozen 3
  have c3 := w1b.cell 3
  have t1 := h.tree.cell 1
  have tw1 := (h.tree.other (a := ⟨n, 1, none⟩) htn (.int .i64 next)).other (a := ⟨n, 3, none⟩) htn (.int .i64 1)
  have t3 := tw1.cell 1
  have tf3 := tw1.frozen 1
  simp only [encN, List.getElem?_cons_zero, List.getElem?_cons_succ, List.set_cons_zero, List.set_cons_succ] at c1 c3 t1 t3
  clear h hx w1b w2b w3b t3b hO hsame tw1
  unfold ptrN
  have hov : IntKind.i64.wrap (next + 1) = next + 1 := by rw [IntKind.wrap_i64]; omega
  go_enter Tryz.func81, Tryz.ntmps81
  go_wp2_with fail
  clear f1 c1 f3 c3 t1 t3 tf3 hov
  generalize ((w.setCell ⟨n, 1, none⟩ (.int .i64 next)).setCell ⟨n, 3, none⟩ (.int .i64 1)).setCell ⟨t, 1, none⟩ (.int .i64 (next + 1)) = w3 at *
  obtain ⟨_, _, _, _, _, _, _, _, _, _, _, n11⟩ := node_cells (T3.out.node d m hd)
  rw [hkb] at n11
  have hM := T3.out.kids d m b hd hkb
  have hbs : (str (baseB p.data.toList)).size ≤ maxLen := by
    rw [size_toList]
    have := baseB_len p.data.toList
    have h2 : p.data.toList.length = p.size := Array.length_toList
    unfold maxLen; omega
  obtain ⟨w4, hput, hm4, hg4⟩ := (hM.drewN 1).put Tryz.underlying109 (by unfold maxLen; omega) hbs (.pointer (some ⟨n, 0, none⟩))
  have hst : (str (baseB p.data.toList)).data.toList = baseB p.data.toList := by simp [str]
  rw [hst] at hm4
  have hg4' : w3.grownBy w4 (some b) := ⟨hg4.os, hg4.tape, hg4.output, hg4.size, hg4.block⟩
  have T4 := Lib.hid (T3.out.put X3.out hd hkb hm4 hg4')
  have O4 := Lib.hid (HO.out.trans (Only.grown hg4' (.inr (.inr rfl))))
  have hput : (Instr.mapUpdate 109 (.map (some b)) (.string (str (baseB p.data.toList))) (.pointer (some ⟨n, 0, none⟩))).run Tryz.prog w3.drew = .ok () w4 := hput
  have hgd : w3.drew.grownBy w4 (some b) := hg4
  have n11d : w3.drew.cell? ⟨d, 11, none⟩ = some (.map (some b)) := n11
  have hdb : some d ≠ some b := fun e => hM.ne (T3.out.node d m hd) (by cases e; rfl)
  clear hM hbs hm4 hg4 hg4' hst T3 X3 HO hd hkb hn0 hn1 hc n11
  refine wp_region_held_drew (S := (fun w' => w3.drew.grownBy w' (some b))) (by kernel_rfl) (World.grownBy.refl _ _) (fun hHeld => ?_)
  refine wpAnyH_take (i := 0) (oi := ?oi1) (v := ?v1) ?hi1 ?hs1 ?hf1 ?hr1 ?hQ1 (Or.inl ⟨?hg1, ?hy1⟩) hHeld ?rest1
  case hi1 => simp only [List.getElem?_toArray, List.getElem?_cons_succ, List.getElem?_cons_zero]; rfl
  case hs1 => kernel_rfl
  case hf1 => kernel_rfl
  case hr1 => kernel_rfl
  case hg1 => rfl
  case hy1 => (intro w hSw; first | (go_simp; done) | (go_simp; with_reducible rfl))
  case hQ1 => exact fun _ _ _ h => h
  try simp only [Act.put, List.setIfInBounds_toArray, List.set_cons_zero, List.set_cons_succ]
  refine wpAnyH_take (i := 1) (oi := ?oi2) (v := ?v2) ?hi2 ?hs2 ?hf2 ?hr2 ?hQ2 (Or.inl ⟨?hg2, ?hy2⟩) hHeld ?rest2
  case hi2 => simp only [List.getElem?_toArray, List.getElem?_cons_succ, List.getElem?_cons_zero]; rfl
  case hs2 => kernel_rfl
  case hf2 => kernel_rfl
  case hr2 => kernel_rfl
  case hg2 => rfl
  case hy2 => (intro w hSw; first | (go_simp; done) | (go_simp; with_reducible rfl))
  case hQ2 => exact fun _ _ _ h => h
  try simp only [Act.put, List.setIfInBounds_toArray, List.set_cons_zero, List.set_cons_succ]
  refine wpAnyH_take (i := 2) (oi := ?oi3) (v := ?v3) ?hi3 ?hs3 ?hf3 ?hr3 ?hQ3 (Or.inl ⟨?hg3, ?hy3⟩) hHeld ?rest3
  case hi3 => simp only [List.getElem?_toArray, List.getElem?_cons_succ, List.getElem?_cons_zero]; rfl
  case hs3 => kernel_rfl
  case hf3 => kernel_rfl
  case hr3 => kernel_rfl
  case hg3 => rfl
  case hy3 => (intro w hSw; first | (go_simp; done) | (go_simp; with_reducible rfl))
  case hQ3 => exact fun _ _ _ h => h
  try simp only [Act.put, List.setIfInBounds_toArray, List.set_cons_zero, List.set_cons_succ]
  refine wpAnyH_take (i := 3) (oi := ?oi4) (v := ?v4) ?hi4 ?hs4 ?hf4 ?hr4 ?hQ4 (Or.inl ⟨?hg4, ?hy4⟩) hHeld ?rest4
  case hi4 => simp only [List.getElem?_toArray, List.getElem?_cons_succ, List.getElem?_cons_zero]; rfl
  case hs4 => kernel_rfl
  case hf4 => kernel_rfl
  case hr4 => kernel_rfl
  case hg4 => rfl
  case hy4 => (intro w hSw; have x0 := World.grownBy.cell hSw n11d hdb; first | (go_simp; done) | (go_simp; with_reducible rfl))
  case hQ4 => exact fun _ _ _ h => h
  try simp only [Act.put, List.setIfInBounds_toArray, List.set_cons_zero, List.set_cons_succ]
  refine wpAnyH_take (i := 4) (oi := ?oi5) (v := ?v5) ?hi5 ?hs5 ?hf5 ?hr5 ?hQ5 (Or.inl ⟨?hg5, ?hy5⟩) hHeld ?rest5
  case hi5 => simp only [List.getElem?_toArray, List.getElem?_cons_succ, List.getElem?_cons_zero]; rfl
  case hs5 => kernel_rfl
  case hf5 => kernel_rfl
  case hr5 => kernel_rfl
  case hg5 => rfl
  case hy5 => (intro w hSw; first | (go_simp; done) | (go_simp; with_reducible rfl))
  case hQ5 => exact fun _ _ _ h => h
  try simp only [Act.put, List.setIfInBounds_toArray, List.set_cons_zero, List.set_cons_succ]
  refine wpAnyH_take (i := 6) (oi := ?oi6) (v := ?v6) ?hi6 ?hs6 ?hf6 ?hr6 ?hQ6 (Or.inl ⟨?hg6, ?hy6⟩) hHeld ?rest6
  case hi6 => simp only [List.getElem?_toArray, List.getElem?_cons_succ, List.getElem?_cons_zero]; rfl
  case hs6 => kernel_rfl
  case hf6 => kernel_rfl
  case hr6 => kernel_rfl
  case hg6 => rfl
  case hy6 => (intro w hSw; first | (go_simp; done) | (go_simp; with_reducible rfl))
  case hQ6 => exact fun _ _ _ h => h
  try simp only [Act.put, List.setIfInBounds_toArray, List.set_cons_zero, List.set_cons_succ]
  refine wpAnyH_ready (rs := [5]) (by kernel_rfl) (by simp) ?_
  refine AllReadyH.cons (o := ?oi7) ?hi7 (fun K hK => ?_) AllReadyH.nil
  case hi7 => simp only [List.getElem?_toArray, List.getElem?_cons_succ, List.getElem?_cons_zero]; rfl
  go_simp; go_at_call 124; refine (base_any p _ (by omega)).mono ?_; rintro e w5 ⟨rfl, rfl⟩; go_wp2_with fail
  refine hK.out _ _ ((World.grownBy.refl _ _)) (fun hHeld2 => ?_)
  clear hK K hHeld
  have hHeld := hHeld2
  clear hHeld2
  try simp only [Act.put, List.setIfInBounds_toArray, List.set_cons_zero, List.set_cons_succ]
  refine wpAnyH_ready (rs := [7]) (by kernel_rfl) (by simp) ?_
  refine AllReadyH.cons (o := ?oi8) ?hi8 (fun K hK => ?_) AllReadyH.nil
  case hi8 => simp only [List.getElem?_toArray, List.getElem?_cons_succ, List.getElem?_cons_zero]; rfl
  refine step_mapUpdate rfl 109 (.tmp 30) (.tmp 32) (.tmp 33) rfl rfl rfl rfl hput ?_
  refine hK.out _ _ (hgd) (fun hHeld2 => ?_)
  clear hK K hHeld
  have hHeld := hHeld2
  clear hHeld2
  try simp only [Act.put, List.setIfInBounds_toArray, List.set_cons_zero, List.set_cons_succ]
  refine wpAnyH_done (by kernel_rfl) ?_ _
  clear hHeld hgd hput n11d
  go_wp2_with fail
  go_end0
  exact ⟨rfl, T4.out, O4.out⟩
end Go.Proofs.YtlbbehfbjbbckaaGreatDoor

/-! A tree is made; a directory, a symbolic link is put into it: the program's New, Mkdir, Symlink. -/
set_option linter.unusedVariables false
set_option linter.unusedSimpArgs false
namespace Go.Proofs.YtlbbehfbjbbckaaGreatDoor
open Go.RowKit

/-- What a thing is, but its size, its links and what stands in it. -/
structure Inf where
  kind : Int
  ino : Int
  mt : Mt
  target : ByteArray
  data : List UInt8
def infN (n : Nd) : Inf := ⟨n.kind, n.ino, ⟨n.m0, n.m1, n.m2, n.m3, n.m4⟩, n.target, n.data⟩
def ownT (t : Nat) (N : Nat → Option Nd) (k : Nat) : Prop := k = t ∨ (∃ n, N k = some n) ∨ ∃ i n, N i = some n ∧ n.kb = some k
/-- A new thing of a tree, made since a world. -/
structure Made (w : World) (N : Nat → Option Nd) (y : Inf) (n : Nat) (x : Nd) : Prop where
  not : N n = none
  low : w.heap.size ≤ n
  map : ∀ b, x.kb = some b → w.heap.size ≤ b
  kids : ∀ s, x.kids s = none
  inf : infN x = y
  links : x.links = 1
  data : ∀ a, x.dA = some a → w.heap.size ≤ a.block
theorem TreeAt.node_lt {w : World} {t top c : Nat} {next : Int} {N : Nat → Option Nd} (h : TreeAt w t top next c N) {i : Nat} {n : Nd} (hi : N i = some n) : i < w.heap.size := (h.node i n hi).lt
theorem TreeAt.new_none {w : World} {t top c : Nat} {next : Int} {N : Nat → Option Nd} (h : TreeAt w t top next c N) {n : Nat} (hn : w.heap.size ≤ n) : N n = none := by
  cases hi : N n with
  | none => rfl
  | some m => have := h.node_lt hi; omega
/-- What putting a new thing does, and what it answers. -/
def PutPost (w w' : World) (t top c : Nat) (next : Int) (N : Nat → Option Nd) (p : List UInt8) (er : Int) (y : Inf) : Prop :=
  (er ≠ 0 ∧ TreeAt w' t top next c N ∧ Below w.heap.size w w') ∨
  (er = 0 ∧ ∃ d n x, lookN N top p = (none, some d, 0) ∧ Made w N y n x ∧ TreeAt w' t top (next + 1) (c + 1) (addN N d n x (baseB p)) ∧ Only (ownT t N) w w')
def N0 (top kb : Nat) : Nat → Option Nd := fun i => if i = top then some ⟨2, 1, 0, 1, 493, 0, 0, 0, 0, ⟨#[]⟩, none, 0, 0, [], some kb, fun _ => none⟩ else none
theorem N0_some {top kb i : Nat} {n : Nd} (h : N0 top kb i = some n) : i = top ∧ n = ⟨2, 1, 0, 1, 493, 0, 0, 0, 0, ⟨#[]⟩, none, 0, 0, [], some kb, fun _ => none⟩ := by
  unfold N0 at h
  by_cases hi : i = top
  · rw [if_pos hi, Option.some.injEq] at h; exact ⟨hi, h.symm⟩
  · rw [if_neg hi] at h; cases h
theorem N0_top (top kb : Nat) : N0 top kb top = some ⟨2, 1, 0, 1, 493, 0, 0, 0, 0, ⟨#[]⟩, none, 0, 0, [], some kb, fun _ => none⟩ := if_pos rfl
set_option maxRecDepth 100000 in
set_option maxHeartbeats 4000000 in
theorem New_any (w : World) :
    Calls Tryz.prog 37 #[] w fun e w' => ∃ t top kb, e = .returned (.pointer (some ⟨t, 0, none⟩)) ∧ TreeAt w' t top 2 0 (N0 top kb) ∧ w.heap.size ≤ t ∧ w.heap.size ≤ top ∧ w.heap.size ≤ kb ∧ Below w.heap.size w w' := by
  have hmm := @run_makeMap Tryz.prog
  go_enter Tryz.func37, Tryz.ntmps37
  go_wp2_with fail
  go_ret
  have b0 := Blk.new w 101 [.pointer (some ⟨w.heap.size + 1 + 1, 0, none⟩), .int .i64 2]
  have h0 := (Below.refl w.heap.size w).alloc (Nat.le_refl _) (.cells #[.pointer (some ⟨w.heap.size + 1 + 1, 0, none⟩), .int .i64 2] 101)
  generalize hw1 : w.alloc (.cells #[.pointer (some ⟨w.heap.size + 1 + 1, 0, none⟩), .int .i64 2] 101) = w1 at *
  have z1 : w1.heap.size = w.heap.size + 1 := by rw [← hw1]; exact World.size_alloc _ _
  have m1 := MapAt.made w1
  have h1 := (Below.refl w1.heap.size w1).alloc (Nat.le_refl _) (.map #[] 0)
  generalize hw2 : w1.alloc (.map #[] 0) = w2 at *
  have z2 : w2.heap.size = w1.heap.size + 1 := by rw [← hw2]; exact World.size_alloc _ _
  have n2 := Blk.new w2 111 (encN ⟨2, 1, 0, 1, 493, 0, 0, 0, 0, ⟨#[]⟩, none, 0, 0, [], some (w.heap.size + 1), fun _ => none⟩)
  have h2 := (Below.refl w2.heap.size w2).alloc (Nat.le_refl _) (.cells (encN ⟨2, 1, 0, 1, 493, 0, 0, 0, 0, ⟨#[]⟩, none, 0, 0, [], some (w.heap.size + 1), fun _ => none⟩).toArray 111)
  rw [z2, z1] at n2
  rw [z1] at m1
  have h02 := h1.trans (h2.mono h1.size)
  refine ⟨w.heap.size, w.heap.size + 1 + 1, w.heap.size + 1, rfl, ⟨b0.below h02, fun i n hi => ?_, fun i n hi => ?_, fun i n b hi hb => ?_, fun i n hi hb => ?_, fun i j n m b hi hj h1 h2 => ?_, fun i n s j hi hs => ?_, ⟨_, N0_top _ _, rfl⟩, fun i n hi hk => ?_, fun i n hi => ?_⟩, Nat.le_refl _, by omega, by omega, h0.trans (h02.mono h0.size)⟩
  · obtain ⟨rfl, rfl⟩ := N0_some hi; exact n2
  · obtain ⟨rfl, rfl⟩ := N0_some hi; exact ⟨Sl.nil _ _ _, fun a ha => by cases ha⟩
  · obtain ⟨rfl, rfl⟩ := N0_some hi; cases hb; exact m1.below h2
  · obtain ⟨rfl, rfl⟩ := N0_some hi; cases hb
  · rw [(N0_some hi).1, (N0_some hj).1]
  · obtain ⟨rfl, rfl⟩ := N0_some hi; cases hs
  · obtain ⟨rfl, rfl⟩ := N0_some hi; simp
  · obtain ⟨rfl, rfl⟩ := N0_some hi; exact Nat.le_refl _
end Go.Proofs.YtlbbehfbjbbckaaGreatDoor

/-! A directory is put into a tree: the program's Mkdir. -/
set_option linter.unusedVariables false
set_option linter.unusedSimpArgs false
namespace Go.Proofs.YtlbbehfbjbbckaaGreatDoor
open Go.RowKit

def mkdirU (N : Nat → Option Nd) (top : Nat) (p : List UInt8) (m : Mt) : Int := if mayU p m = 0 then (freshU (lookN N top p)).2 else mayU p m
theorem PutPost.mono {w0 w w' : World} {t top c : Nat} {next : Int} {N : Nat → Option Nd} {p : List UInt8} {er : Int} {y : Inf} (h : PutPost w w' t top c next N p er y) (hb : Below w0.heap.size w0 w) (hz : w0.heap.size ≤ w.heap.size) : PutPost w0 w' t top c next N p er y := by
  rcases h with ⟨h1, h2, h3⟩ | ⟨h1, d, n, x, h2, h3, h4, h5⟩
  · exact .inl ⟨h1, h2, hb.trans (h3.mono hz)⟩
  · exact .inr ⟨h1, d, n, x, h2, ⟨h3.not, Nat.le_trans hz h3.low, fun b hb => Nat.le_trans hz (h3.map b hb), h3.kids, h3.inf, h3.links, fun a ha => Nat.le_trans hz (h3.data a ha)⟩, h4, (Only.of hb).trans h5⟩
theorem look_dir {w : World} {t top c : Nat} {next : Int} {N : Nat → Option Nd} (h : TreeAt w t top next c N) {p : List UInt8} (hf : (freshU (lookN N top p)).2 = 0) (hp : p = [] → False) : ∃ d m b, lookN N top p = (none, some d, 0) ∧ N d = some m ∧ m.kb = some b ∧ freshU (lookN N top p) = (some d, 0) := by
  unfold lookN at hf ⊢
  by_cases h1 : rightB p = false
  · rw [if_pos h1] at hf; simp [freshU] at hf
  rw [if_neg h1] at hf ⊢
  rw [if_neg (fun e => hp e)] at hf ⊢
  cases ho : atN N (some top) (splitB (parentB p)) with
  | none => rw [ho] at hf; simp [freshU] at hf
  | some d =>
    rw [ho] at hf
    cases hm : N d with
    | none => simp only [hm] at hf; simp [freshU] at hf
    | some m =>
      simp only [hm] at hf ⊢
      by_cases hk : m.kind = 2
      · rw [if_pos hk] at hf ⊢
        cases hkid : m.kids (baseB p) with
        | none =>
          cases hb : m.kb with
          | none => exact absurd hb (h.dirs d m hm hk)
          | some b => exact ⟨d, m, b, rfl, hm, hb, rfl⟩
        | some k =>
          rw [hkid] at hf
          unfold freshU at hf
          rw [if_pos ⟨rfl, fun e => by cases e⟩] at hf
          simp [freshU] at hf
      · rw [if_neg hk] at hf; simp [freshU] at hf
theorem fresh_nil {N : Nat → Option Nd} {top : Nat} : (freshU (lookN N top [])).2 ≠ 0 := by
  unfold lookN
  by_cases h1 : rightB [] = false
  · rw [if_pos h1]; simp [freshU]
  rw [if_neg h1, if_pos rfl]
  unfold freshU
  rw [if_pos ⟨rfl, fun e => by cases e⟩]
  simp
theorem put_post {w w5 w6 : World} {t top c d n b : Nat} {next : Int} {N : Nat → Option Nd} {m x : Nd} {p : List UInt8} {y : Inf} (hl : lookN N top p = (none, some d, 0)) (hd : N d = some m) (hkb : m.kb = some b) (hx : NewAt w5 n c x N) (hn : w.heap.size ≤ n)
    (hxb : ∀ b, x.kb = some b → w.heap.size ≤ b) (hxd : x.dA = none) (hy : infN { x with ino := next, links := 1 } = y) (hb : Below w.heap.size w w5) (hT : TreeAt w6 t top (next + 1) (c + 1) (addN N d n { x with ino := next, links := 1 } (baseB p)))
    (hO : Only (fun k => k = t ∨ k = n ∨ k = b) w5 w6) : PutPost w w6 t top c next N p 0 y :=
  .inr ⟨rfl, d, n, { x with ino := next, links := 1 }, hl, ⟨hx.not, hn, hxb, hx.kids, hy, rfl, fun a ha => by rw [show ({ x with ino := next, links := 1 } : Nd).dA = x.dA from rfl, hxd] at ha; cases ha⟩, hT, ⟨hO.os.trans hb.os, hO.tape.trans hb.tape, hO.output.trans hb.output, Nat.le_trans hb.size hO.size, fun k hk hP =>
    (hO.block k (Nat.lt_of_lt_of_le hk hb.size) (by
      rintro (rfl | rfl | rfl)
      · exact hP (.inl rfl)
      · omega
      · exact hP (.inr (.inr ⟨d, m, hd, hkb⟩)))).trans (hb.block k hk)⟩⟩
theorem NewAt.mkd {w : World} {t top c : Nat} {next : Int} {N : Nat → Option Nd} (h : TreeAt w t top next c N) (x : Nd) (h1 : x.kb = some w.heap.size) (h2 : ∀ s, x.kids s = none) (h3 : x.dA = none) (h4 : x.dn = 0) (h5 : x.data = []) :
    NewAt ((w.alloc (.map #[] 0)).alloc (.cells (encN x).toArray 111)) (w.heap.size + 1) c x N := by
  have hz : (w.alloc (.map #[] 0)).heap.size = w.heap.size + 1 := World.size_alloc _ _
  have hB := Blk.new (w.alloc (.map #[] 0)) 111 (encN x)
  rw [hz] at hB
  refine ⟨hB, ⟨by rw [h3, h4, h5]; exact Sl.nil _ _ _, fun a ha => by rw [h3] at ha; cases ha⟩, h2, fun b hb => ?_, fun _ => by rw [h1]; simp, by rw [h4]; exact Nat.zero_le _, h.new_none (by omega)⟩
  rw [h1, Option.some.injEq] at hb
  subst hb
  exact ⟨((MapAt.made w).alloc _).mono (Nat.zero_le c), fun i m hi hm => by have := (h.kids i m _ hi hm).lt; omega⟩
theorem NewAt.leaf {w : World} {t top c : Nat} {next : Int} {N : Nat → Option Nd} (h : TreeAt w t top next c N) (x : Nd) (h0 : x.kind ≠ 2) (h1 : x.kb = none) (h2 : ∀ s, x.kids s = none) (h3 : x.dA = none) (h4 : x.dn = 0) (h5 : x.data = []) :
    NewAt (w.alloc (.cells (encN x).toArray 111)) w.heap.size c x N :=
  ⟨Blk.new w 111 (encN x), ⟨by rw [h3, h4, h5]; exact Sl.nil _ _ _, fun a ha => by rw [h3] at ha; cases ha⟩, h2, fun b hb => (by rw [h1] at hb; cases hb), fun h => absurd h h0, by rw [h4]; exact Nat.zero_le _, h.new_none (Nat.le_refl _)⟩
theorem meta_cells {w : World} {g : Nat} {a b c d f : Int} (h : Blk w g 53 [.int .i64 a, .int .i64 b, .int .i64 c, .int .i64 d, .int .i64 f]) : w.cell? ⟨g, 0, none⟩ = some (.int .i64 a) ∧ w.cell? ⟨g, 1, none⟩ = some (.int .i64 b) ∧ w.cell? ⟨g, 2, none⟩ = some (.int .i64 c) ∧ w.cell? ⟨g, 3, none⟩ = some (.int .i64 d) ∧ w.cell? ⟨g, 4, none⟩ = some (.int .i64 f) := ⟨h.cell 0, h.cell 1, h.cell 2, h.cell 3, h.cell 4⟩
set_option maxRecDepth 100000 in
set_option maxHeartbeats 4000000 in
theorem Mkdir_any (t top c : Nat) (next : Int) (N : Nat → Option Nd) (p : ByteArray) (m : Mt) (w : World) (h : TreeAt w t top next c N) (hp : p.size ≤ 2097152) (hn0 : 0 ≤ next) (hn1 : next ≤ 1099511627776) (hc : c ≤ 1099511627776) :
    Calls Tryz.prog 38 #[.pointer (some ⟨t, 0, none⟩), .string p, aggM m] w fun e w' => e = .returned (.int .i64 (mkdirU N top p.data.toList m)) ∧ PutPost w w' t top c next N p.data.toList (mkdirU N top p.data.toList m) ⟨2, next, m, ⟨#[]⟩, []⟩ := by
  have HM := Lib.hid (fun w => may_any t p m w hp)
  have HF := Lib.hid (fun w (h : TreeAt w t top next c N) => fresh_any t top c next N p w h hp)
  have HT := Lib.hid h
  obtain ⟨X, hX⟩ : ∃ X : Int, mkdirU N top p.data.toList m = X := ⟨_, rfl⟩
  have HX : Hid ((if mayU p.data.toList m = 0 then (freshU (lookN N top p.data.toList)).2 else mayU p.data.toList m) = X) := Lib.hid hX
  have HMN := Lib.hid (show mayU p.data.toList m = 0 → freshU (lookN N top p.data.toList) = freshU (lookN N top p.data.toList) from fun _ => rfl)
  rw [hX]
  clear h hX HMN
  generalize mayU p.data.toList m = er at *
  obtain ⟨a, b, cc, dd, f⟩ := m
  have b0 := Blk.new w 53 [.int .i64 a, .int .i64 b, .int .i64 cc, .int .i64 dd, .int .i64 f]
  have hb0 := (Below.refl w.heap.size w).alloc (Nat.le_refl _) (.cells #[.int .i64 a, .int .i64 b, .int .i64 cc, .int .i64 dd, .int .i64 f] 53)
  have B0 := Lib.hid b0
  have HB0 := Lib.hid hb0
  have T0 := Lib.hid (HT.out.below hb0)
  clear b0 hb0 HT
  unfold aggM at *
  obtain ⟨x0, x1, x2, x3, x4⟩ := meta_cells B0.out
  go_enter Tryz.func38, Tryz.ntmps38
  go_wp2_with fail
  generalize hwa : w.alloc _ = wa at *
  generalize hbm : w.heap.size = bm at *
  refine (HM.out _).mono ?_
  rintro e w1 ⟨rfl, hb1⟩
  have B1 := Lib.hid (B0.out.below hb1)
  have HB1 := Lib.hid (HB0.out.trans (hb1.mono (by rw [← hbm]; exact HB0.out.size)))
  have T1 := Lib.hid (T0.out.below hb1)
  clear hb1 B0 HB0 T0 HM x0 x1 x2 x3 x4
  obtain ⟨x0, x1, x2, x3, x4⟩ := meta_cells B1.out
  by_cases he : er = 0
  · subst he
    have HX := Lib.hid (show (freshU (lookN N top p.data.toList)).2 = X from HX.out)
    go_wp2_with fail
    refine (HF.out _ T1.out).mono ?_
    rintro e w2 ⟨rfl, hb2⟩
    have B2 := Lib.hid (B1.out.below hb2)
    have HB2 := Lib.hid (HB1.out.trans (hb2.mono (by rw [← hbm]; exact HB1.out.size)))
    have T2 := Lib.hid (T1.out.below hb2)
    clear hb2 HF B1 HB1 T1 x0 x1 x2 x3 x4
    obtain ⟨x0, x1, x2, x3, x4⟩ := meta_cells B2.out
    by_cases hX0 : X = 0
    · obtain ⟨d, md, kb, hl, hd, hkb, hfr⟩ := look_dir T2.out (HX.out.trans hX0) (fun e => fresh_nil (N := N) (top := top) (by have := HX.out.trans hX0; rw [e] at this; exact this))
      rw [hfr]
      have HL := Lib.hid hl
      have HX0 := Lib.hid hX0
      have HD := Lib.hid hd
      have HKB := Lib.hid hkb
      clear hX0 hl hd hkb hfr HX
      rw [ptrO_some]
      unfold ptrN
      have hmm := @run_makeMap Tryz.prog
      go_wp2_with fail
      have hx := NewAt.mkd T2.out ⟨2, 0, 0, 0, a, b, cc, dd, f, ⟨#[]⟩, none, 0, 0, [], some w2.heap.size, fun _ => none⟩ rfl (fun _ => rfl) rfl rfl rfl
      have hb5 := ((Below.refl w2.heap.size w2).alloc (Nat.le_refl _) (.map #[] 0)).trans (((Below.refl (w2.alloc (.map #[] 0)).heap.size (w2.alloc (.map #[] 0))).alloc (Nat.le_refl _) (.cells (encN ⟨2, 0, 0, 0, a, b, cc, dd, f, ⟨#[]⟩, none, 0, 0, [], some w2.heap.size, fun _ => none⟩).toArray 111)).mono (by rw [World.size_alloc]; omega))
      have hz2 : bm ≤ w2.heap.size := Nat.le_trans (by rw [← hbm]; exact Nat.le_refl _) HB2.out.size
      refine (put_any t top c d (w2.heap.size + 1) kb next N md _ p _ (T2.out.below hb5) hx HD.out HKB.out hp hn0 hn1 hc).mono ?_
      rintro e w6 ⟨rfl, hT6, hO6⟩
      have HP := Lib.hid (put_post (w := w) HL.out HD.out HKB.out hx (by omega) (fun b hb => by cases hb; omega) rfl rfl (by rw [hbm]; exact HB2.out.trans (hb5.mono hz2)) hT6 hO6)
      have HX0 := HX0.out
      subst HX0
      clear hx hb5 hT6 hO6 T2 HB2 B2 x0 x1 x2 x3 x4 HL HD HKB
      go_wp2_with fail
      go_ret
      exact ⟨by rfl, HP.out⟩
    · have e1 : (X != 0) = true := by simpa using hX0
      have hXX := HX.out
      generalize freshU (lookN N top p.data.toList) = fr at *
      obtain ⟨fo, fe⟩ := fr
      obtain rfl : fe = X := hXX
      go_wp2_with fail
      go_ret
      exact ⟨by rfl, .inl ⟨hX0, T2.out, by rw [hbm]; exact HB2.out⟩⟩
  · have e1 : (er != 0) = true := by simpa using he
    have K := Lib.hid (show X = er by rw [← HX.out, if_neg he])
    have he' := Lib.hid he
    clear he
    go_wp2_with fail
    go_ret
    exact ⟨by rw [K.out]; rfl, .inl ⟨by rw [K.out]; exact he'.out, T1.out, by rw [hbm]; exact HB1.out⟩⟩
end Go.Proofs.YtlbbehfbjbbckaaGreatDoor

/-! A symbolic link is put into a tree: the program's Symlink. -/
set_option linter.unusedVariables false
set_option linter.unusedSimpArgs false
namespace Go.Proofs.YtlbbehfbjbbckaaGreatDoor
open Go.RowKit

def symU (N : Nat → Option Nd) (top : Nat) (p : List UInt8) (tg : ByteArray) (m : Mt) : Int := if mayU p m = 0 then (if tg.size = 0 then 2 else if 200 < tg.size then 7 else (freshU (lookN N top p)).2) else mayU p m
set_option maxRecDepth 100000 in
set_option maxHeartbeats 4000000 in
theorem Symlink_any (t top c : Nat) (next : Int) (N : Nat → Option Nd) (p tg : ByteArray) (m : Mt) (w : World) (h : TreeAt w t top next c N) (hp : p.size ≤ 2097152) (hn0 : 0 ≤ next) (hn1 : next ≤ 1099511627776) (hc : c ≤ 1099511627776) :
    Calls Tryz.prog 29 #[.pointer (some ⟨t, 0, none⟩), .string p, .string tg, aggM m] w fun e w' => e = .returned (.int .i64 (symU N top p.data.toList tg m)) ∧ PutPost w w' t top c next N p.data.toList (symU N top p.data.toList tg m) ⟨3, next, m, tg, []⟩ := by
  have HM := Lib.hid (fun w => may_any t p m w hp)
  have HF := Lib.hid (fun w (h : TreeAt w t top next c N) => fresh_any t top c next N p w h hp)
  have HT := Lib.hid h
  obtain ⟨X, hX⟩ : ∃ X : Int, symU N top p.data.toList tg m = X := ⟨_, rfl⟩
  have HX : Hid ((if mayU p.data.toList m = 0 then (if tg.size = 0 then 2 else if 200 < tg.size then 7 else (freshU (lookN N top p.data.toList)).2) else mayU p.data.toList m) = X) := Lib.hid hX
  have HMN := Lib.hid (show mayU p.data.toList m = 0 → freshU (lookN N top p.data.toList) = freshU (lookN N top p.data.toList) from fun _ => rfl)
  rw [hX]
  clear h hX HMN
  generalize mayU p.data.toList m = er at *
  obtain ⟨a, b, cc, dd, f⟩ := m
  have b0 := Blk.new w 53 [.int .i64 a, .int .i64 b, .int .i64 cc, .int .i64 dd, .int .i64 f]
  have hb0 := (Below.refl w.heap.size w).alloc (Nat.le_refl _) (.cells #[.int .i64 a, .int .i64 b, .int .i64 cc, .int .i64 dd, .int .i64 f] 53)
  have B0 := Lib.hid b0
  have HB0 := Lib.hid hb0
  have T0 := Lib.hid (HT.out.below hb0)
  clear b0 hb0 HT
  unfold aggM at *
  obtain ⟨x0, x1, x2, x3, x4⟩ := meta_cells B0.out
  go_enter Tryz.func29, Tryz.ntmps29
  go_wp2_with fail
  generalize hwa : w.alloc _ = wa at *
  generalize hbm : w.heap.size = bm at *
  refine (HM.out _).mono ?_
  rintro e w1 ⟨rfl, hb1⟩
  have B1 := Lib.hid (B0.out.below hb1)
  have HB1 := Lib.hid (HB0.out.trans (hb1.mono (by rw [← hbm]; exact HB0.out.size)))
  have T1 := Lib.hid (T0.out.below hb1)
  clear hb1 B0 HB0 T0 HM x0 x1 x2 x3 x4
  obtain ⟨x0, x1, x2, x3, x4⟩ := meta_cells B1.out
  by_cases he : er = 0
  · subst he
    have HX1 := Lib.hid (show (if tg.size = 0 then (2 : Int) else if 200 < tg.size then 7 else (freshU (lookN N top p.data.toList)).2) = X from HX.out)
    clear HX
    by_cases hz : tg.size = 0
    · obtain rfl : tg = ⟨#[]⟩ := ByteArray.ext (Array.size_eq_zero_iff.1 hz)
      have K := Lib.hid (show X = 2 from HX1.out.symm)
      clear hz
      go_wp2_with fail
      go_ret
      exact ⟨by rw [K.out]; rfl, .inl ⟨by rw [K.out]; decide, T1.out, by rw [hbm]; exact HB1.out⟩⟩
    have HX2 := Lib.hid (show (if 200 < tg.size then (7 : Int) else (freshU (lookN N top p.data.toList)).2) = X by rw [← HX1.out, if_neg hz])
    clear HX1
    have hnil := nil_toList tg hz
    clear hz
    rcases Nat.lt_or_ge 200 tg.size with h2 | h2
    · have K := Lib.hid (show X = 7 by rw [← HX2.out, if_pos h2])
      have e2 : decide (200 < tg.size) = true := decide_eq_true h2
      have e3 : decide ((200 : Int) < (tg.size : Int)) = true := decide_eq_true (by omega)
      have e4 : (200 : Int) < (tg.size : Int) := by omega
      clear h2
      go_wp2_with fail
      go_ret
      exact ⟨by rw [K.out]; rfl, .inl ⟨by rw [K.out]; decide, T1.out, by rw [hbm]; exact HB1.out⟩⟩
    have e2 : decide (200 < tg.size) = false := decide_eq_false (by omega)
    have e3 : decide ((200 : Int) < (tg.size : Int)) = false := decide_eq_false (by omega)
    have e4 : ¬ (200 : Int) < (tg.size : Int) := by omega
    have HX := Lib.hid (show (freshU (lookN N top p.data.toList)).2 = X by rw [← HX2.out, if_neg (by omega)])
    clear HX2
    clear h2
    go_wp2_with fail
    refine (HF.out _ T1.out).mono ?_
    rintro e w2 ⟨rfl, hb2⟩
    have B2 := Lib.hid (B1.out.below hb2)
    have HB2 := Lib.hid (HB1.out.trans (hb2.mono (by rw [← hbm]; exact HB1.out.size)))
    have T2 := Lib.hid (T1.out.below hb2)
    clear hb2 HF B1 HB1 T1 x0 x1 x2 x3 x4
    obtain ⟨x0, x1, x2, x3, x4⟩ := meta_cells B2.out
    by_cases hX0 : X = 0
    · obtain ⟨d, md, kb, hl, hd, hkb, hfr⟩ := look_dir T2.out (HX.out.trans hX0) (fun e => fresh_nil (N := N) (top := top) (by have := HX.out.trans hX0; rw [e] at this; exact this))
      rw [hfr]
      have HL := Lib.hid hl
      have HX0 := Lib.hid hX0
      have HD := Lib.hid hd
      have HKB := Lib.hid hkb
      clear hX0 hl hd hkb hfr HX
      rw [ptrO_some]
      unfold ptrN
      go_wp2_with fail
      have hx := NewAt.leaf T2.out ⟨3, 0, 0, 0, a, b, cc, dd, f, tg, none, 0, 0, [], none, fun _ => none⟩ (by simp) rfl (fun _ => rfl) rfl rfl rfl
      have hb5 := (Below.refl w2.heap.size w2).alloc (Nat.le_refl _) (.cells (encN ⟨3, 0, 0, 0, a, b, cc, dd, f, tg, none, 0, 0, [], none, fun _ => none⟩).toArray 111)
      have hz2 : bm ≤ w2.heap.size := Nat.le_trans (by rw [← hbm]; exact Nat.le_refl _) HB2.out.size
      refine (put_any t top c d w2.heap.size kb next N md _ p _ (T2.out.below hb5) hx HD.out HKB.out hp hn0 hn1 hc).mono ?_
      rintro e w6 ⟨rfl, hT6, hO6⟩
      have HP := Lib.hid (put_post (w := w) HL.out HD.out HKB.out hx (by rw [hbm]; exact hz2) (fun b hb => by cases hb) rfl rfl (by rw [hbm]; exact HB2.out.trans (hb5.mono hz2)) hT6 hO6)
      have HX0 := HX0.out
      subst HX0
      clear hx hb5 hT6 hO6 T2 HB2 B2 x0 x1 x2 x3 x4 HL HD HKB
      go_wp2_with fail
      go_ret
      exact ⟨by rfl, HP.out⟩
    · have e1 : (X != 0) = true := by simpa using hX0
      have hXX := HX.out
      generalize freshU (lookN N top p.data.toList) = fr at *
      obtain ⟨fo, fe⟩ := fr
      obtain rfl : fe = X := hXX
      go_wp2_with fail
      go_ret
      exact ⟨by rfl, .inl ⟨hX0, T2.out, by rw [hbm]; exact HB2.out⟩⟩
  · have e1 : (er != 0) = true := by simpa using he
    have K := Lib.hid (show X = er by rw [← HX.out, if_neg he])
    have he' := Lib.hid he
    clear he
    go_wp2_with fail
    go_ret
    exact ⟨by rw [K.out]; rfl, .inl ⟨by rw [K.out]; exact he'.out, T1.out, by rw [hbm]; exact HB1.out⟩⟩
end Go.Proofs.YtlbbehfbjbbckaaGreatDoor
