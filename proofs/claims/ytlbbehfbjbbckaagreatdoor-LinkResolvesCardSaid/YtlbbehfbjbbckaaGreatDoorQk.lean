import Derived.Test.YtlbbehfbjbbckaaGreatDoorQj
import Derived.Test.YtlbbehfbjbbckaaGreatDoorQg
import Derived.Deep.Upon
import Derived.StillTailTactics
/-! More behind a file's bytes: the program's Append. -/
set_option linter.unusedVariables false
set_option linter.unusedSimpArgs false
namespace Go.Proofs.YtlbbehfbjbbckaaGreatDoor
open Go.RowKit

theorem addr_add (b o j : Nat) : (⟨b, o, none⟩ : Addr).add j = ⟨b, o + j, none⟩ := by unfold Addr.add; split <;> simp_all
theorem Sl.src {w : World} {A : Option Addr} {n c : Nat} {l : List UInt8} (h : Sl 1 w A n (bys l)) : Src Tryz.prog 1 36 (.slice A n c) n (bys l) w := by
  have hl := h.len
  rcases h.at_ with h0 | ⟨b, o, rfl, hc⟩
  · rw [h0] at hl ⊢
    simp only [List.length_nil, Nat.mul_one] at hl
    subst hl
    rcases A with _ | a
    · exact Src.ofNil w Tryz.underlying36 c
    · exact Src.ofSlice w Tryz.underlying36 a 0 c [] (by simp) (by simp) (by simp)
  · exact Src.ofSlice w Tryz.underlying36 _ n c _ hl (fun j u hj => by rw [addr_add]; exact hc j u hj) (bys_one l)
theorem append_tight {w : World} {A B : Option Addr} {n m d : Nat} {l k : List UInt8} (h : BytesAt w A n l) (hs : Sl 1 w B m (bys k)) (hb : n + m ≤ 1099511627776) :
    ∃ A' c' w', (Builtin.append_ #[36, 36] 36 #[.slice A n n, .slice B m d]).run Tryz.prog w = .ok (.slice A' (n + m) c') w' ∧ n + m ≤ c' ∧ BytesAt w' A' (n + m) (l ++ k) ∧ Below w.heap.size w w' ∧ ∀ a, A' = some a → w.heap.size ≤ a.block ∨ A = some a := by
  obtain ⟨i, hi, hz0, hz1, hz2⟩ := info_parts infoU8
  have hsrc := hs.src (c := d)
  have hml : m = k.length := by have := hs.len; rw [bys_length] at this; omega
  have hnl : n = l.length := by have := h.1.len; rw [bys_length] at this; omega
  rcases Nat.eq_zero_or_pos m with h0 | h0
  · subst h0
    have hk : k = [] := List.eq_nil_of_length_eq_zero hml.symm
    subst hk
    refine ⟨A, n, w, run_append_nothing (P := Tryz.prog) w 36 36 36 5 i Tryz.underlying36 hi A n n (Nat.le_refl _) _ (by rw [hz1]; exact hsrc), Nat.le_refl _, ?_, Below.refl _ _, fun a ha => .inr ha⟩
    rw [List.append_nil]; exact h
  · have hold : (Builtin.firstCells i.size n (.slice A n n)).run Tryz.prog w.drew = .ok (bys l).toArray w.drew := by
      rw [hz1]
      rcases h.1.at_ with e0 | ⟨b, o, rfl, hc⟩
      · rw [e0]
        have : n = 0 := by rw [hnl]; have := congrArg List.length e0; rwa [bys_length] at this
        subst this
        rcases A with _ | a
        · exact run_firstCells_none w.drew 1 0 0 0
        · exact run_firstCells_some w.drew 1 0 a 0 0 [] (by simp) (by simp)
      · exact run_firstCells_some w.drew 1 n _ n n (bys l) (by rw [bys_length]; omega) (fun j u hj => by rw [addr_add]; exact hc j u hj)
    have hrun := run_append_grow_src (P := Tryz.prog) w 36 36 36 5 i _ Tryz.underlying36 hi hz0 A n n (bys l) hold (.slice B m d) m (bys k) (by rw [hz1]; exact hsrc) (by omega) (by omega) (growslice_fits (by omega) (by rw [hz2]; omega))
    refine ⟨_, _, _, hrun, grownCap_ge _ _ _ _, ⟨?_, fun a ha => ?_⟩, ((Below.refl w.heap.size w).drew).alloc (Nat.le_refl _) _, fun a ha => ?_⟩
    · refine ⟨by rw [bys_length, List.length_append]; omega, by omega, .inr ⟨_, 0, rfl, fun j v hj => ?_⟩⟩
      rw [Nat.zero_add]
      refine (cell_of_row _ w.drew.heap.size _ _ _ _ (heap_alloc_new w.drew _)).trans ?_
      have hjl := (List.getElem?_eq_some_iff.1 hj).1
      rw [bys_append] at hj hjl
      rw [Array.getElem?_append_left (by simpa using hjl)]
      simpa using hj
    · cases ha
      exact ⟨_, heap_alloc_new w.drew _⟩
    · cases ha
      exact .inl (Nat.le_refl _)
theorem elemU8 : Tryz.prog.elem 36 = 5 := by kernel_rfl
theorem undU8 : Tryz.prog.underlying 36 = some (.slice (Tryz.prog.elem 36)) := by rw [elemU8]; exact Tryz.underlying36
theorem addr_zero (a : Addr) : a.add 0 = a := by unfold Addr.add; split <;> simp_all
theorem run_slice_tight (A : Option Addr) (n c : Nat) (h : n ≤ c) (w : World) : (Instr.slice 36 (.slice A n c) none (some (.int .i64 n)) (some (.int .i64 n))).run Tryz.prog w = .ok (.slice A n n) w := by
  obtain ⟨i, hi, hz0, hz1, hz2⟩ := info_parts infoU8
  rw [run_slice_hm (ht := undU8) (len := n) (kh := .i64) (km := .i64) (h := n) (m := n) (h0 := by omega) (h2 := by omega) (h3 := by omega)]
  have : (sizeOf (Tryz.prog.elem 36)).run Tryz.prog w = .ok 1 w := by rw [elemU8]; simp [sizeOf, run_typeInfo w hi, hz1]
  rw [this]
  have ha : A.map (fun a => a.add 0) = A := by cases A <;> simp [addr_zero]
  simp [Result.andThen, sliced, ha]
theorem append_err (S : St) (p b : List UInt8) (h : (S.append p b).1 ≠ 0) : (S.append p b).2 = S := by
  unfold St.append at h ⊢
  generalize thereS (S.look p) = r at *
  obtain ⟨o, e⟩ := r
  cases o with
  | none => rfl
  | some i =>
    simp only at h ⊢
    by_cases a : e ≠ 0
    · rw [if_pos a]
    rw [if_neg a] at h ⊢
    by_cases b : fileU (S.th i).kind ≠ 0
    · rw [if_pos b]
    rw [if_neg b] at h ⊢
    split
    · rfl
    · rename_i c; rw [if_neg c] at h; exact absurd rfl h
set_option maxRecDepth 100000 in
set_option maxHeartbeats 8000000 in
theorem AppendS_any (t c : Nat) (S : St) (O : Nat → Prop) (p : ByteArray) (B : Option Addr) (m0 d : Nat) (b : List UInt8) (w : World) (h : TreeS w t c S O) (hs : Sl 1 w B m0 (bys b)) (hb0 : m0 ≤ 1000000000) (hp : p.size ≤ 2097152) :
    Calls Tryz.prog 95 #[.pointer (some ⟨t, 0, none⟩), .string p, .slice B m0 d] w fun e w' => e = .returned (.int .i64 (S.append p.data.toList b).1) ∧ ActPost w w' t c (S.append p.data.toList b).2 O := by
  have HS := Lib.hid h
  obtain ⟨top, N, hT, hR, ho, hO⟩ := h
  have HML := Lib.hid (show m0 = b.length by have := hs.len; rw [bys_length] at this; omega)
  have HF := Lib.hid (there_any t top c S.next N p w hT hp)
  have HTH := Lib.hid (hR.thereR ho p.data.toList)
  have HT := Lib.hid hT
  have HSL := Lib.hid hs
  have HACT := Lib.hid (fun w' k x x' (hT' : TreeAt w' t top S.next c (setN N k x')) => act_set (w := w) (w' := w') (x := x) hT' hR ho hO)
  obtain ⟨X, hX⟩ : ∃ X, S.append p.data.toList b = X := ⟨_, rfl⟩
  have HX : Hid ((match thereS (S.look p.data.toList) with
    | (some i, e) => if e ≠ 0 then (e, S) else if fileU (S.th i).kind ≠ 0 then (fileU (S.th i).kind, S)
      else if 65536 < (S.th i).data.length + b.length then (7, S) else (0, { S with th := setT S.th i { S.th i with data := (S.th i).data ++ b } })
    | (none, e) => (e, S)) = X) := Lib.hid hX
  have HIN := Lib.hid (fun k x (hk : N k = some x) => hR.info k x hk)
  have HDT := Lib.hid (hR.dat ho)
  rw [hX]
  clear hX hT hR ho hO hs
  obtain ⟨r, hr⟩ : ∃ r, thereS (S.look p.data.toList) = r := ⟨_, rfl⟩
  obtain ⟨l, hl⟩ : ∃ l, thereU (lookN N top p.data.toList) = l := ⟨_, rfl⟩
  rw [hr] at HX HTH
  rw [hl] at HF HTH
  clear hr hl
  go_enter Tryz.func95, Tryz.ntmps95
  go_wp2_with fail
  refine HF.out.mono ?_
  rintro e w2 ⟨rfl, hb2⟩
  have HB2 := Lib.hid hb2
  have T2 := Lib.hid (HT.out.below hb2)
  have S2 := Lib.hid (HSL.out.below hb2)
  clear hb2 HF HT HSL
  obtain ⟨lo, ld, le⟩ := l
  obtain ⟨ro, re⟩ := r
  obtain rfl : le = re := HTH.out.err
  unfold tupL
  rcases Classical.em (le = 0) with h0 | h0
  · subst h0
    obtain ⟨k, x, e1, hk, e2⟩ := HTH.out.found rfl
    obtain rfl : lo = some k := e1
    obtain rfl : ro = some x.ino := e2
    have hth := HIN.out k x hk
    have HX1 := Lib.hid (show (if fileU x.kind ≠ 0 then (fileU x.kind, S) else if 65536 < x.data.length + b.length then ((7 : Int), S) else (0, { S with th := setT S.th x.ino { S.th x.ino with data := x.data ++ b } })) = X by
      have h := HX.out
      simp only [ne_eq, not_true_eq_false, if_false] at h
      rw [← h, hth]; rfl)
    have HK := Lib.hid hk
    have HFI := Lib.hid (file_any k x w2 (T2.out.node k x hk))
    obtain ⟨n0, n1, n2, n3, n4, n5, n6, n7, n8, n9, n10, n11⟩ := node_cells (T2.out.node k x hk)
    rw [show ptrO (some k) = .pointer (some ⟨k, 0, none⟩) from rfl]
    unfold ptrN at HFI
    clear hk HX HTH hth n0 n1 n2 n3 n4 n5 n6 n7 n8 n9 n11
    go_wp2_with fail
    refine HFI.out.mono ?_
    rintro e w3 ⟨rfl, rfl⟩
    rcases Classical.em (fileU x.kind = 0) with hf | hf
    · have HX2 := Lib.hid (show (if 65536 < x.data.length + b.length then ((7 : Int), S) else (0, { S with th := setT S.th x.ino { S.th x.ino with data := x.data ++ b } })) = X by have h := HX1.out; rwa [if_neg (show ¬ fileU x.kind ≠ 0 from fun h => h hf)] at h)
      have q1 : (fileU x.kind != 0) = false := by simpa using hf
      have HDL := Lib.hid (show x.dn = x.data.length by have := (T2.out.data k x HK.out).1.len; rw [bys_length] at this; omega)
      have hd65 : x.dn ≤ 65536 := by rw [HDL.out]; exact HDT.out k x HK.out
      have hov : IntKind.i64.wrap ((x.dn : Int) + (m0 : Int)) = (x.dn : Int) + (m0 : Int) := by rw [IntKind.wrap_i64]; omega
      clear hf HX1
      rcases Nat.lt_or_ge 65536 (x.dn + m0) with hbig | hbig
      · have K := Lib.hid (show X = (7, S) by rw [← HX2.out, if_pos (by rw [← HDL.out, ← HML.out]; exact hbig)])
        have q4 : 65536 < x.dn + m0 := hbig
        have q5 : decide (65536 < x.dn + m0) = true := decide_eq_true hbig
        have q2 : (65536 : Int) < (x.dn : Int) + (m0 : Int) := by omega
        have q3 : decide ((65536 : Int) < (x.dn : Int) + (m0 : Int)) = true := decide_eq_true q2
        clear hbig hd65 HX2
        go_wp2_with fail
        go_ret
        rw [K.out]
        exact ⟨rfl, act_same HS.out HB2.out⟩
      · have K := Lib.hid (show X = (0, { S with th := setT S.th x.ino { S.th x.ino with data := x.data ++ b } }) by rw [← HX2.out, if_neg (by rw [← HDL.out, ← HML.out]; omega)])
        have q4 : ¬ 65536 < x.dn + m0 := by omega
        have q5 : decide (65536 < x.dn + m0) = false := decide_eq_false q4
        have q2 : ¬ (65536 : Int) < (x.dn : Int) + (m0 : Int) := by omega
        have q3 : decide ((65536 : Int) < (x.dn : Int) + (m0 : Int)) = false := decide_eq_false q2
        have hrm := T2.out.room k x HK.out
        have hrm2 : (x.dn : Int) ≤ (x.dc : Int) := by omega
        have hsl : ∀ w : World, (Instr.slice 36 (.slice x.dA x.dn x.dc) none (some (.int .i64 x.dn)) (some (.int .i64 x.dn))).run Tryz.prog w = .ok (.slice x.dA x.dn x.dn) w := fun w => run_slice_tight x.dA x.dn x.dc hrm w
        obtain ⟨A', c', w6, hap, hrc, hby, hb6, hlow⟩ := append_tight (w := w3.drew) (A := x.dA) (B := B) (n := x.dn) (m := m0) (d := d) (l := x.data) (k := b) (show BytesAt w3.drew x.dA x.dn x.data from ⟨⟨(T2.out.data k x HK.out).1.len, (T2.out.data k x HK.out).1.max, (T2.out.data k x HK.out).1.at_⟩, (T2.out.data k x HK.out).2⟩) (show Sl 1 w3.drew B m0 (bys b) from ⟨S2.out.len, S2.out.max, S2.out.at_⟩) (by omega)
        have Y6 := Lib.hid ((T2.out.node k x HK.out).below (show Below w3.heap.size w3 w6 from ((Below.refl w3.heap.size w3).drew).trans hb6))
        have y10 := Y6.out.cell 10
        have y10f := Y6.out.frozen 10
        simp only [encN, List.getElem?_cons_zero, List.getElem?_cons_succ] at y10
        go_wp2_with fail
        clear q2 q3 q4 q5 hrm2
        have y10w : w3.drew.cell? ⟨k, 10, none⟩ = some (.slice x.dA x.dn x.dc) := n10
        refine wp_region_held_drew (S := (fun w' => Only (fun j => j = k) w3.drew w')) (by kernel_rfl) (Only.refl _ _) (fun hHeld => ?_)
        refine wpAnyH_take (i := 0) (oi := ?oi1) (v := ?v1) ?hi1 ?hs1 ?hf1 ?hr1 ?hQ1 (Or.inl ⟨?hg1, ?hy1⟩) hHeld ?rest1
        case hi1 => simp only [List.getElem?_toArray, List.getElem?_cons_succ, List.getElem?_cons_zero]; rfl
        case hs1 => kernel_rfl
        case hf1 => kernel_rfl
        case hr1 => kernel_rfl
        case hg1 => rfl
        case hy1 => (intro w hSw; first | (go_simp; done) | (go_simp; with_reducible rfl))
        case hQ1 => exact fun _ _ _ h => h
        try simp only [Act.put, List.setIfInBounds_toArray, List.set_cons_zero, List.set_cons_succ]
        refine wpAnyH_take (i := 1) (oi := ?oi2) (v := ?v2) ?hi2 ?hs2 ?hf2 ?hr2 ?hQ2 (Or.inl ⟨?hg2, ?hy2⟩) hHeld ?rest2
        case hi2 => simp only [List.getElem?_toArray, List.getElem?_cons_succ, List.getElem?_cons_zero]; rfl
        case hs2 => kernel_rfl
        case hf2 => kernel_rfl
        case hr2 => kernel_rfl
        case hg2 => rfl
        case hy2 => (intro w hSw; first | (go_simp; done) | (go_simp; with_reducible rfl))
        case hQ2 => exact fun _ _ _ h => h
        try simp only [Act.put, List.setIfInBounds_toArray, List.set_cons_zero, List.set_cons_succ]
        refine wpAnyH_take (i := 2) (oi := ?oi3) (v := ?v3) ?hi3 ?hs3 ?hf3 ?hr3 ?hQ3 (Or.inl ⟨?hg3, ?hy3⟩) hHeld ?rest3
        case hi3 => simp only [List.getElem?_toArray, List.getElem?_cons_succ, List.getElem?_cons_zero]; rfl
        case hs3 => kernel_rfl
        case hf3 => kernel_rfl
        case hr3 => kernel_rfl
        case hg3 => rfl
        case hy3 => (intro w hSw; first | (go_simp; done) | (go_simp; with_reducible rfl))
        case hQ3 => exact fun _ _ _ h => h
        try simp only [Act.put, List.setIfInBounds_toArray, List.set_cons_zero, List.set_cons_succ]
        refine wpAnyH_take (i := 3) (oi := ?oi4) (v := ?v4) ?hi4 ?hs4 ?hf4 ?hr4 ?hQ4 (Or.inl ⟨?hg4, ?hy4⟩) hHeld ?rest4
        case hi4 => simp only [List.getElem?_toArray, List.getElem?_cons_succ, List.getElem?_cons_zero]; rfl
        case hs4 => kernel_rfl
        case hf4 => kernel_rfl
        case hr4 => kernel_rfl
        case hg4 => rfl
        case hy4 => (intro w hSw; first | (go_simp; done) | (go_simp; with_reducible rfl))
        case hQ4 => exact fun _ _ _ h => h
        try simp only [Act.put, List.setIfInBounds_toArray, List.set_cons_zero, List.set_cons_succ]
        refine wpAnyH_take (i := 5) (oi := ?oi5) (v := ?v5) ?hi5 ?hs5 ?hf5 ?hr5 ?hQ5 (Or.inl ⟨?hg5, ?hy5⟩) hHeld ?rest5
        case hi5 => simp only [List.getElem?_toArray, List.getElem?_cons_succ, List.getElem?_cons_zero]; rfl
        case hs5 => kernel_rfl
        case hf5 => kernel_rfl
        case hr5 => kernel_rfl
        case hg5 => rfl
        case hy5 => (intro w hSw; first | (go_simp; done) | (go_simp; with_reducible rfl))
        case hQ5 => exact fun _ _ _ h => h
        try simp only [Act.put, List.setIfInBounds_toArray, List.set_cons_zero, List.set_cons_succ]
        refine wpAnyH_take (i := 6) (oi := ?oi6) (v := ?v6) ?hi6 ?hs6 ?hf6 ?hr6 ?hQ6 (Or.inl ⟨?hg6, ?hy6⟩) hHeld ?rest6
        case hi6 => simp only [List.getElem?_toArray, List.getElem?_cons_succ, List.getElem?_cons_zero]; rfl
        case hs6 => kernel_rfl
        case hf6 => kernel_rfl
        case hr6 => kernel_rfl
        case hg6 => rfl
        case hy6 => (intro w hSw; first | (go_simp; done) | (go_simp; with_reducible rfl))
        case hQ6 => exact fun _ _ _ h => h
        try simp only [Act.put, List.setIfInBounds_toArray, List.set_cons_zero, List.set_cons_succ]
        refine wpAnyH_take (i := 7) (oi := ?oi7) (v := ?v7) ?hi7 ?hs7 ?hf7 ?hr7 ?hQ7 (Or.inl ⟨?hg7, ?hy7⟩) hHeld ?rest7
        case hi7 => simp only [List.getElem?_toArray, List.getElem?_cons_succ, List.getElem?_cons_zero]; rfl
        case hs7 => kernel_rfl
        case hf7 => kernel_rfl
        case hr7 => kernel_rfl
        case hg7 => rfl
        case hy7 => (intro w hSw; first | (go_simp; done) | (go_simp; with_reducible rfl))
        case hQ7 => exact fun _ _ _ h => h
        try simp only [Act.put, List.setIfInBounds_toArray, List.set_cons_zero, List.set_cons_succ]
        refine wpAnyH_take (i := 10) (oi := ?oi8) (v := ?v8) ?hi8 ?hs8 ?hf8 ?hr8 ?hQ8 (Or.inl ⟨?hg8, ?hy8⟩) hHeld ?rest8
        case hi8 => simp only [List.getElem?_toArray, List.getElem?_cons_succ, List.getElem?_cons_zero]; rfl
        case hs8 => kernel_rfl
        case hf8 => kernel_rfl
        case hr8 => kernel_rfl
        case hg8 => rfl
        case hy8 => (intro w hSw; first | (go_simp; done) | (go_simp; with_reducible rfl))
        case hQ8 => exact fun _ _ _ h => h
        try simp only [Act.put, List.setIfInBounds_toArray, List.set_cons_zero, List.set_cons_succ]
        refine wpAnyH_take (i := 11) (oi := ?oi9) (v := ?v9) ?hi9 ?hs9 ?hf9 ?hr9 ?hQ9 (Or.inl ⟨?hg9, ?hy9⟩) hHeld ?rest9
        case hi9 => simp only [List.getElem?_toArray, List.getElem?_cons_succ, List.getElem?_cons_zero]; rfl
        case hs9 => kernel_rfl
        case hf9 => kernel_rfl
        case hr9 => kernel_rfl
        case hg9 => rfl
        case hy9 => (intro w hSw; first | (go_simp; done) | (go_simp; with_reducible rfl))
        case hQ9 => exact fun _ _ _ h => h
        try simp only [Act.put, List.setIfInBounds_toArray, List.set_cons_zero, List.set_cons_succ]
        refine wpAnyH_take (i := 12) (oi := ?oi10) (v := ?v10) ?hi10 ?hs10 ?hf10 ?hr10 ?hQ10 (Or.inl ⟨?hg10, ?hy10⟩) hHeld ?rest10
        case hi10 => simp only [List.getElem?_toArray, List.getElem?_cons_succ, List.getElem?_cons_zero]; rfl
        case hs10 => kernel_rfl
        case hf10 => kernel_rfl
        case hr10 => kernel_rfl
        case hg10 => rfl
        case hy10 => (intro w hSw; first | (go_simp; done) | (go_simp; with_reducible rfl))
        case hQ10 => exact fun _ _ _ h => h
        try simp only [Act.put, List.setIfInBounds_toArray, List.set_cons_zero, List.set_cons_succ]
        refine wpAnyH_take (i := 16) (oi := ?oi11) (v := ?v11) ?hi11 ?hs11 ?hf11 ?hr11 ?hQ11 (Or.inl ⟨?hg11, ?hy11⟩) hHeld ?rest11
        case hi11 => simp only [List.getElem?_toArray, List.getElem?_cons_succ, List.getElem?_cons_zero]; rfl
        case hs11 => kernel_rfl
        case hf11 => kernel_rfl
        case hr11 => kernel_rfl
        case hg11 => rfl
        case hy11 => (intro w hSw; first | (go_simp; done) | (go_simp; with_reducible rfl))
        case hQ11 => exact fun _ _ _ h => h
        try simp only [Act.put, List.setIfInBounds_toArray, List.set_cons_zero, List.set_cons_succ]
        refine wpAnyH_ready (rs := [4, 8, 13]) (by kernel_rfl) (by simp) ?_
        refine AllReadyH.cons (o := ?o12_0) ?h12_0 (fun K hK => ?_) (AllReadyH.cons (o := ?o12_1) ?h12_1 (fun K hK => ?_) (AllReadyH.cons (o := ?o12_2) ?h12_2 (fun K hK => ?_) AllReadyH.nil))
        case h12_0 => simp only [List.getElem?_toArray, List.getElem?_cons_succ, List.getElem?_cons_zero]; rfl
        case h12_1 => simp only [List.getElem?_toArray, List.getElem?_cons_succ, List.getElem?_cons_zero]; rfl
        case h12_2 => simp only [List.getElem?_toArray, List.getElem?_cons_succ, List.getElem?_cons_zero]; rfl
        · go_simp
          refine hK.out _ _ ((Only.refl _ _)) (fun hHeld2 => ?_)
          clear hK K hHeld
          have hHeld := hHeld2
          clear hHeld2
          try simp only [Act.put, List.setIfInBounds_toArray, List.set_cons_zero, List.set_cons_succ]
          refine wpAnyH_ready (rs := [8, 13]) (by kernel_rfl) (by simp) ?_
          refine AllReadyH.cons (o := ?o13_0) ?h13_0 (fun K hK => ?_) (AllReadyH.cons (o := ?o13_1) ?h13_1 (fun K hK => ?_) AllReadyH.nil)
          case h13_0 => simp only [List.getElem?_toArray, List.getElem?_cons_succ, List.getElem?_cons_zero]; rfl
          case h13_1 => simp only [List.getElem?_toArray, List.getElem?_cons_succ, List.getElem?_cons_zero]; rfl
          · go_simp
            refine hK.out _ _ ((Only.refl _ _)) (fun hHeld2 => ?_)
            clear hK K hHeld
            have hHeld := hHeld2
            clear hHeld2
            try simp only [Act.put, List.setIfInBounds_toArray, List.set_cons_zero, List.set_cons_succ]
            refine wpAnyH_take (i := 9) (oi := ?oi14) (v := ?v14) ?hi14 ?hs14 ?hf14 ?hr14 ?hQ14 (Or.inl ⟨?hg14, ?hy14⟩) hHeld ?rest14
            case hi14 => simp only [List.getElem?_toArray, List.getElem?_cons_succ, List.getElem?_cons_zero]; rfl
            case hs14 => kernel_rfl
            case hf14 => kernel_rfl
            case hr14 => kernel_rfl
            case hg14 => rfl
            case hy14 => (intro w hSw; first | (go_simp; done) | (go_simp; with_reducible rfl))
            case hQ14 => exact fun _ _ _ h => h
            try simp only [Act.put, List.setIfInBounds_toArray, List.set_cons_zero, List.set_cons_succ]
            refine wpAnyH_ready (rs := [13]) (by kernel_rfl) (by simp) ?_
            refine AllReadyH.cons (o := ?oi15) ?hi15 (fun K hK => ?_) AllReadyH.nil
            case hi15 => simp only [List.getElem?_toArray, List.getElem?_cons_succ, List.getElem?_cons_zero]; rfl
            go_simp
            refine hK.out _ _ ((Only.refl _ _)) (fun hHeld2 => ?_)
            clear hK K hHeld
            have hHeld := hHeld2
            clear hHeld2
            try simp only [Act.put, List.setIfInBounds_toArray, List.set_cons_zero, List.set_cons_succ]
            refine wpAnyH_take (i := 14) (oi := ?oi16) (v := ?v16) ?hi16 ?hs16 ?hf16 ?hr16 ?hQ16 (Or.inl ⟨?hg16, ?hy16⟩) hHeld ?rest16
            case hi16 => simp only [List.getElem?_toArray, List.getElem?_cons_succ, List.getElem?_cons_zero]; rfl
            case hs16 => kernel_rfl
            case hf16 => kernel_rfl
            case hr16 => kernel_rfl
            case hg16 => rfl
            case hy16 => (intro w hSw; first | (go_simp; done) | (go_simp; with_reducible rfl))
            case hQ16 => exact fun _ _ _ h => h
            try simp only [Act.put, List.setIfInBounds_toArray, List.set_cons_zero, List.set_cons_succ]
            refine wpAnyH_take (i := 15) (oi := ?oi17) (v := ?v17) ?hi17 ?hs17 ?hf17 ?hr17 ?hQ17 (Or.inl ⟨?hg17, ?hy17⟩) hHeld ?rest17
            case hi17 => simp only [List.getElem?_toArray, List.getElem?_cons_succ, List.getElem?_cons_zero]; rfl
            case hs17 => kernel_rfl
            case hf17 => kernel_rfl
            case hr17 => kernel_rfl
            case hg17 => rfl
            case hy17 => (intro w hSw; have x0 := hsl; first | (go_simp; done) | (go_simp; with_reducible rfl))
            case hQ17 => exact fun _ _ _ h => h
            try simp only [Act.put, List.setIfInBounds_toArray, List.set_cons_zero, List.set_cons_succ]
            refine wpAnyH_ready (rs := [17]) (by kernel_rfl) (by simp) ?_
            refine AllReadyH.cons (o := ?oi18) ?hi18 (fun K hK => ?_) AllReadyH.nil
            case hi18 => simp only [List.getElem?_toArray, List.getElem?_cons_succ, List.getElem?_cons_zero]; rfl
            refine step_append_run rfl (.tmp 50) (.tmp 51) 36 36 rfl rfl rfl hap ?_
            refine hK.out _ _ ((Only.of hb6)) (fun hHeld2 => ?_)
            clear hK K hHeld
            have hHeld := hHeld2
            clear hHeld2
            try simp only [Act.put, List.setIfInBounds_toArray, List.set_cons_zero, List.set_cons_succ]
            refine wpAnyH_take (i := 18) (oi := ?oi19) (v := ?v19) ?hi19 ?hs19 ?hf19 ?hr19 ?hQ19 (Or.inl ⟨?hg19, ?hy19⟩) hHeld ?rest19
            case hi19 => simp only [List.getElem?_toArray, List.getElem?_cons_succ, List.getElem?_cons_zero]; rfl
            case hs19 => kernel_rfl
            case hf19 => kernel_rfl
            case hr19 => kernel_rfl
            case hg19 => rfl
            case hy19 => (intro w hSw; first | (go_simp; done) | (go_simp; with_reducible rfl))
            case hQ19 => exact fun _ _ _ h => h
            try simp only [Act.put, List.setIfInBounds_toArray, List.set_cons_zero, List.set_cons_succ]
            refine wpAnyH_take (i := 19) (oi := ?oi20) (v := ?v20) ?hi20 ?hs20 ?hf20 ?hr20 ?hQ20 (Or.inl ⟨?hg20, ?hy20⟩) hHeld ?rest20
            case hi20 => simp only [List.getElem?_toArray, List.getElem?_cons_succ, List.getElem?_cons_zero]; rfl
            case hs20 => kernel_rfl
            case hf20 => kernel_rfl
            case hr20 => kernel_rfl
            case hg20 => rfl
            case hy20 => (intro w hSw; first | (go_simp; done) | (go_simp; with_reducible rfl))
            case hQ20 => exact fun _ _ _ h => h
            try simp only [Act.put, List.setIfInBounds_toArray, List.set_cons_zero, List.set_cons_succ]
            refine wpAnyH_ready (rs := [20]) (by kernel_rfl) (by simp) ?_
            refine AllReadyH.cons (o := ?oi21) ?hi21 (fun K hK => ?_) AllReadyH.nil
            case hi21 => simp only [List.getElem?_toArray, List.getElem?_cons_succ, List.getElem?_cons_zero]; rfl
            go_simp
            refine hK.out _ _ (((Only.of hb6).trans (Only.set (P := fun j => j = k) w6 ⟨k, 10, none⟩ _ rfl))) (fun hHeld2 => ?_)
            clear hK K hHeld
            have hHeld := hHeld2
            clear hHeld2
            try simp only [Act.put, List.setIfInBounds_toArray, List.set_cons_zero, List.set_cons_succ]
            refine wpAnyH_done (by kernel_rfl) ?_ _
            clear hHeld
            go_wp2_with fail
            go_ret
            have W9 := Y6.out.set 10 (.slice A' (x.dn + m0) c')
            have hh9 : ∀ j, j ≠ k → (w6.setCell ⟨k, 10, none⟩ (.slice A' (x.dn + m0) c')).heap[j]? = w6.heap[j]? := fun j hj => Below.heap_setCell _ _ _ _ hj
            have hb36 : Below w3.heap.size w3 w6 := ((Below.refl w3.heap.size w3).drew).trans hb6
            have T9 := (T2.out.below hb36).reset HK.out { x with dA := A', dn := x.dn + m0, dc := c', data := x.data ++ b } rfl rfl rfl W9 (BytesAt.only hby hh9 Y6.out) hrc (fun j _ hj => hh9 j hj)
            have O9 : Only (ownT t N) w _ := Only.trans (Only.of (HB2.out.trans (hb36.mono HB2.out.size))) ((Only.set (P := fun j => j = k) w6 ⟨k, 10, none⟩ (.slice A' (x.dn + m0) c') rfl).mono (fun j _ hj => by subst hj; exact .inr (.inl ⟨x, HK.out⟩)))
            have hA := HACT.out _ k x _ T9 HK.out rfl rfl rfl rfl rfl rfl (by show (x.data ++ b).length ≤ 65536; rw [List.length_append, ← HDL.out, ← HML.out]; omega) (fun a ha => (hlow a ha).imp (fun h => Nat.le_trans HB2.out.size h) id) O9
            rw [K.out]
            refine ⟨rfl, ?_⟩
            rw [HIN.out k x HK.out]
            exact hA
          · go_simp
            refine hK.out _ _ ((Only.refl _ _)) (fun hHeld2 => ?_)
            clear hK K hHeld
            have hHeld := hHeld2
            clear hHeld2
            try simp only [Act.put, List.setIfInBounds_toArray, List.set_cons_zero, List.set_cons_succ]
            refine wpAnyH_take (i := 14) (oi := ?oi22) (v := ?v22) ?hi22 ?hs22 ?hf22 ?hr22 ?hQ22 (Or.inl ⟨?hg22, ?hy22⟩) hHeld ?rest22
            case hi22 => simp only [List.getElem?_toArray, List.getElem?_cons_succ, List.getElem?_cons_zero]; rfl
            case hs22 => kernel_rfl
            case hf22 => kernel_rfl
            case hr22 => kernel_rfl
            case hg22 => rfl
            case hy22 => (intro w hSw; first | (go_simp; done) | (go_simp; with_reducible rfl))
            case hQ22 => exact fun _ _ _ h => h
            try simp only [Act.put, List.setIfInBounds_toArray, List.set_cons_zero, List.set_cons_succ]
            refine wpAnyH_ready (rs := [8]) (by kernel_rfl) (by simp) ?_
            refine AllReadyH.cons (o := ?oi23) ?hi23 (fun K hK => ?_) AllReadyH.nil
            case hi23 => simp only [List.getElem?_toArray, List.getElem?_cons_succ, List.getElem?_cons_zero]; rfl
            go_simp
            refine hK.out _ _ ((Only.refl _ _)) (fun hHeld2 => ?_)
            clear hK K hHeld
            have hHeld := hHeld2
            clear hHeld2
            try simp only [Act.put, List.setIfInBounds_toArray, List.set_cons_zero, List.set_cons_succ]
            refine wpAnyH_take (i := 9) (oi := ?oi24) (v := ?v24) ?hi24 ?hs24 ?hf24 ?hr24 ?hQ24 (Or.inl ⟨?hg24, ?hy24⟩) hHeld ?rest24
            case hi24 => simp only [List.getElem?_toArray, List.getElem?_cons_succ, List.getElem?_cons_zero]; rfl
            case hs24 => kernel_rfl
            case hf24 => kernel_rfl
            case hr24 => kernel_rfl
            case hg24 => rfl
            case hy24 => (intro w hSw; first | (go_simp; done) | (go_simp; with_reducible rfl))
            case hQ24 => exact fun _ _ _ h => h
            try simp only [Act.put, List.setIfInBounds_toArray, List.set_cons_zero, List.set_cons_succ]
            refine wpAnyH_take (i := 15) (oi := ?oi25) (v := ?v25) ?hi25 ?hs25 ?hf25 ?hr25 ?hQ25 (Or.inl ⟨?hg25, ?hy25⟩) hHeld ?rest25
            case hi25 => simp only [List.getElem?_toArray, List.getElem?_cons_succ, List.getElem?_cons_zero]; rfl
            case hs25 => kernel_rfl
            case hf25 => kernel_rfl
            case hr25 => kernel_rfl
            case hg25 => rfl
            case hy25 => (intro w hSw; have x0 := hsl; first | (go_simp; done) | (go_simp; with_reducible rfl))
            case hQ25 => exact fun _ _ _ h => h
            try simp only [Act.put, List.setIfInBounds_toArray, List.set_cons_zero, List.set_cons_succ]
            refine wpAnyH_ready (rs := [17]) (by kernel_rfl) (by simp) ?_
            refine AllReadyH.cons (o := ?oi26) ?hi26 (fun K hK => ?_) AllReadyH.nil
            case hi26 => simp only [List.getElem?_toArray, List.getElem?_cons_succ, List.getElem?_cons_zero]; rfl
            refine step_append_run rfl (.tmp 50) (.tmp 51) 36 36 rfl rfl rfl hap ?_
            refine hK.out _ _ ((Only.of hb6)) (fun hHeld2 => ?_)
            clear hK K hHeld
            have hHeld := hHeld2
            clear hHeld2
            try simp only [Act.put, List.setIfInBounds_toArray, List.set_cons_zero, List.set_cons_succ]
            refine wpAnyH_take (i := 18) (oi := ?oi27) (v := ?v27) ?hi27 ?hs27 ?hf27 ?hr27 ?hQ27 (Or.inl ⟨?hg27, ?hy27⟩) hHeld ?rest27
            case hi27 => simp only [List.getElem?_toArray, List.getElem?_cons_succ, List.getElem?_cons_zero]; rfl
            case hs27 => kernel_rfl
            case hf27 => kernel_rfl
            case hr27 => kernel_rfl
            case hg27 => rfl
            case hy27 => (intro w hSw; first | (go_simp; done) | (go_simp; with_reducible rfl))
            case hQ27 => exact fun _ _ _ h => h
            try simp only [Act.put, List.setIfInBounds_toArray, List.set_cons_zero, List.set_cons_succ]
            refine wpAnyH_take (i := 19) (oi := ?oi28) (v := ?v28) ?hi28 ?hs28 ?hf28 ?hr28 ?hQ28 (Or.inl ⟨?hg28, ?hy28⟩) hHeld ?rest28
            case hi28 => simp only [List.getElem?_toArray, List.getElem?_cons_succ, List.getElem?_cons_zero]; rfl
            case hs28 => kernel_rfl
            case hf28 => kernel_rfl
            case hr28 => kernel_rfl
            case hg28 => rfl
            case hy28 => (intro w hSw; first | (go_simp; done) | (go_simp; with_reducible rfl))
            case hQ28 => exact fun _ _ _ h => h
            try simp only [Act.put, List.setIfInBounds_toArray, List.set_cons_zero, List.set_cons_succ]
            refine wpAnyH_ready (rs := [20]) (by kernel_rfl) (by simp) ?_
            refine AllReadyH.cons (o := ?oi29) ?hi29 (fun K hK => ?_) AllReadyH.nil
            case hi29 => simp only [List.getElem?_toArray, List.getElem?_cons_succ, List.getElem?_cons_zero]; rfl
            go_simp
            refine hK.out _ _ (((Only.of hb6).trans (Only.set (P := fun j => j = k) w6 ⟨k, 10, none⟩ _ rfl))) (fun hHeld2 => ?_)
            clear hK K hHeld
            have hHeld := hHeld2
            clear hHeld2
            try simp only [Act.put, List.setIfInBounds_toArray, List.set_cons_zero, List.set_cons_succ]
            refine wpAnyH_done (by kernel_rfl) ?_ _
            clear hHeld
            go_wp2_with fail
            go_ret
            have W9 := Y6.out.set 10 (.slice A' (x.dn + m0) c')
            have hh9 : ∀ j, j ≠ k → (w6.setCell ⟨k, 10, none⟩ (.slice A' (x.dn + m0) c')).heap[j]? = w6.heap[j]? := fun j hj => Below.heap_setCell _ _ _ _ hj
            have hb36 : Below w3.heap.size w3 w6 := ((Below.refl w3.heap.size w3).drew).trans hb6
            have T9 := (T2.out.below hb36).reset HK.out { x with dA := A', dn := x.dn + m0, dc := c', data := x.data ++ b } rfl rfl rfl W9 (BytesAt.only hby hh9 Y6.out) hrc (fun j _ hj => hh9 j hj)
            have O9 : Only (ownT t N) w _ := Only.trans (Only.of (HB2.out.trans (hb36.mono HB2.out.size))) ((Only.set (P := fun j => j = k) w6 ⟨k, 10, none⟩ (.slice A' (x.dn + m0) c') rfl).mono (fun j _ hj => by subst hj; exact .inr (.inl ⟨x, HK.out⟩)))
            have hA := HACT.out _ k x _ T9 HK.out rfl rfl rfl rfl rfl rfl (by show (x.data ++ b).length ≤ 65536; rw [List.length_append, ← HDL.out, ← HML.out]; omega) (fun a ha => (hlow a ha).imp (fun h => Nat.le_trans HB2.out.size h) id) O9
            rw [K.out]
            refine ⟨rfl, ?_⟩
            rw [HIN.out k x HK.out]
            exact hA
        · go_simp
          refine hK.out _ _ ((Only.refl _ _)) (fun hHeld2 => ?_)
          clear hK K hHeld
          have hHeld := hHeld2
          clear hHeld2
          try simp only [Act.put, List.setIfInBounds_toArray, List.set_cons_zero, List.set_cons_succ]
          refine wpAnyH_take (i := 9) (oi := ?oi30) (v := ?v30) ?hi30 ?hs30 ?hf30 ?hr30 ?hQ30 (Or.inl ⟨?hg30, ?hy30⟩) hHeld ?rest30
          case hi30 => simp only [List.getElem?_toArray, List.getElem?_cons_succ, List.getElem?_cons_zero]; rfl
          case hs30 => kernel_rfl
          case hf30 => kernel_rfl
          case hr30 => kernel_rfl
          case hg30 => rfl
          case hy30 => (intro w hSw; first | (go_simp; done) | (go_simp; with_reducible rfl))
          case hQ30 => exact fun _ _ _ h => h
          try simp only [Act.put, List.setIfInBounds_toArray, List.set_cons_zero, List.set_cons_succ]
          refine wpAnyH_ready (rs := [4, 13]) (by kernel_rfl) (by simp) ?_
          refine AllReadyH.cons (o := ?o31_0) ?h31_0 (fun K hK => ?_) (AllReadyH.cons (o := ?o31_1) ?h31_1 (fun K hK => ?_) AllReadyH.nil)
          case h31_0 => simp only [List.getElem?_toArray, List.getElem?_cons_succ, List.getElem?_cons_zero]; rfl
          case h31_1 => simp only [List.getElem?_toArray, List.getElem?_cons_succ, List.getElem?_cons_zero]; rfl
          · go_simp
            refine hK.out _ _ ((Only.refl _ _)) (fun hHeld2 => ?_)
            clear hK K hHeld
            have hHeld := hHeld2
            clear hHeld2
            try simp only [Act.put, List.setIfInBounds_toArray, List.set_cons_zero, List.set_cons_succ]
            refine wpAnyH_ready (rs := [13]) (by kernel_rfl) (by simp) ?_
            refine AllReadyH.cons (o := ?oi32) ?hi32 (fun K hK => ?_) AllReadyH.nil
            case hi32 => simp only [List.getElem?_toArray, List.getElem?_cons_succ, List.getElem?_cons_zero]; rfl
            go_simp
            refine hK.out _ _ ((Only.refl _ _)) (fun hHeld2 => ?_)
            clear hK K hHeld
            have hHeld := hHeld2
            clear hHeld2
            try simp only [Act.put, List.setIfInBounds_toArray, List.set_cons_zero, List.set_cons_succ]
            refine wpAnyH_take (i := 14) (oi := ?oi33) (v := ?v33) ?hi33 ?hs33 ?hf33 ?hr33 ?hQ33 (Or.inl ⟨?hg33, ?hy33⟩) hHeld ?rest33
            case hi33 => simp only [List.getElem?_toArray, List.getElem?_cons_succ, List.getElem?_cons_zero]; rfl
            case hs33 => kernel_rfl
            case hf33 => kernel_rfl
            case hr33 => kernel_rfl
            case hg33 => rfl
            case hy33 => (intro w hSw; first | (go_simp; done) | (go_simp; with_reducible rfl))
            case hQ33 => exact fun _ _ _ h => h
            try simp only [Act.put, List.setIfInBounds_toArray, List.set_cons_zero, List.set_cons_succ]
            refine wpAnyH_take (i := 15) (oi := ?oi34) (v := ?v34) ?hi34 ?hs34 ?hf34 ?hr34 ?hQ34 (Or.inl ⟨?hg34, ?hy34⟩) hHeld ?rest34
            case hi34 => simp only [List.getElem?_toArray, List.getElem?_cons_succ, List.getElem?_cons_zero]; rfl
            case hs34 => kernel_rfl
            case hf34 => kernel_rfl
            case hr34 => kernel_rfl
            case hg34 => rfl
            case hy34 => (intro w hSw; have x0 := hsl; first | (go_simp; done) | (go_simp; with_reducible rfl))
            case hQ34 => exact fun _ _ _ h => h
            try simp only [Act.put, List.setIfInBounds_toArray, List.set_cons_zero, List.set_cons_succ]
            refine wpAnyH_ready (rs := [17]) (by kernel_rfl) (by simp) ?_
            refine AllReadyH.cons (o := ?oi35) ?hi35 (fun K hK => ?_) AllReadyH.nil
            case hi35 => simp only [List.getElem?_toArray, List.getElem?_cons_succ, List.getElem?_cons_zero]; rfl
            refine step_append_run rfl (.tmp 50) (.tmp 51) 36 36 rfl rfl rfl hap ?_
            refine hK.out _ _ ((Only.of hb6)) (fun hHeld2 => ?_)
            clear hK K hHeld
            have hHeld := hHeld2
            clear hHeld2
            try simp only [Act.put, List.setIfInBounds_toArray, List.set_cons_zero, List.set_cons_succ]
            refine wpAnyH_take (i := 18) (oi := ?oi36) (v := ?v36) ?hi36 ?hs36 ?hf36 ?hr36 ?hQ36 (Or.inl ⟨?hg36, ?hy36⟩) hHeld ?rest36
            case hi36 => simp only [List.getElem?_toArray, List.getElem?_cons_succ, List.getElem?_cons_zero]; rfl
            case hs36 => kernel_rfl
            case hf36 => kernel_rfl
            case hr36 => kernel_rfl
            case hg36 => rfl
            case hy36 => (intro w hSw; first | (go_simp; done) | (go_simp; with_reducible rfl))
            case hQ36 => exact fun _ _ _ h => h
            try simp only [Act.put, List.setIfInBounds_toArray, List.set_cons_zero, List.set_cons_succ]
            refine wpAnyH_take (i := 19) (oi := ?oi37) (v := ?v37) ?hi37 ?hs37 ?hf37 ?hr37 ?hQ37 (Or.inl ⟨?hg37, ?hy37⟩) hHeld ?rest37
            case hi37 => simp only [List.getElem?_toArray, List.getElem?_cons_succ, List.getElem?_cons_zero]; rfl
            case hs37 => kernel_rfl
            case hf37 => kernel_rfl
            case hr37 => kernel_rfl
            case hg37 => rfl
            case hy37 => (intro w hSw; first | (go_simp; done) | (go_simp; with_reducible rfl))
            case hQ37 => exact fun _ _ _ h => h
            try simp only [Act.put, List.setIfInBounds_toArray, List.set_cons_zero, List.set_cons_succ]
            refine wpAnyH_ready (rs := [20]) (by kernel_rfl) (by simp) ?_
            refine AllReadyH.cons (o := ?oi38) ?hi38 (fun K hK => ?_) AllReadyH.nil
            case hi38 => simp only [List.getElem?_toArray, List.getElem?_cons_succ, List.getElem?_cons_zero]; rfl
            go_simp
            refine hK.out _ _ (((Only.of hb6).trans (Only.set (P := fun j => j = k) w6 ⟨k, 10, none⟩ _ rfl))) (fun hHeld2 => ?_)
            clear hK K hHeld
            have hHeld := hHeld2
            clear hHeld2
            try simp only [Act.put, List.setIfInBounds_toArray, List.set_cons_zero, List.set_cons_succ]
            refine wpAnyH_done (by kernel_rfl) ?_ _
            clear hHeld
            go_wp2_with fail
            go_ret
            have W9 := Y6.out.set 10 (.slice A' (x.dn + m0) c')
            have hh9 : ∀ j, j ≠ k → (w6.setCell ⟨k, 10, none⟩ (.slice A' (x.dn + m0) c')).heap[j]? = w6.heap[j]? := fun j hj => Below.heap_setCell _ _ _ _ hj
            have hb36 : Below w3.heap.size w3 w6 := ((Below.refl w3.heap.size w3).drew).trans hb6
            have T9 := (T2.out.below hb36).reset HK.out { x with dA := A', dn := x.dn + m0, dc := c', data := x.data ++ b } rfl rfl rfl W9 (BytesAt.only hby hh9 Y6.out) hrc (fun j _ hj => hh9 j hj)
            have O9 : Only (ownT t N) w _ := Only.trans (Only.of (HB2.out.trans (hb36.mono HB2.out.size))) ((Only.set (P := fun j => j = k) w6 ⟨k, 10, none⟩ (.slice A' (x.dn + m0) c') rfl).mono (fun j _ hj => by subst hj; exact .inr (.inl ⟨x, HK.out⟩)))
            have hA := HACT.out _ k x _ T9 HK.out rfl rfl rfl rfl rfl rfl (by show (x.data ++ b).length ≤ 65536; rw [List.length_append, ← HDL.out, ← HML.out]; omega) (fun a ha => (hlow a ha).imp (fun h => Nat.le_trans HB2.out.size h) id) O9
            rw [K.out]
            refine ⟨rfl, ?_⟩
            rw [HIN.out k x HK.out]
            exact hA
          · go_simp
            refine hK.out _ _ ((Only.refl _ _)) (fun hHeld2 => ?_)
            clear hK K hHeld
            have hHeld := hHeld2
            clear hHeld2
            try simp only [Act.put, List.setIfInBounds_toArray, List.set_cons_zero, List.set_cons_succ]
            refine wpAnyH_take (i := 14) (oi := ?oi39) (v := ?v39) ?hi39 ?hs39 ?hf39 ?hr39 ?hQ39 (Or.inl ⟨?hg39, ?hy39⟩) hHeld ?rest39
            case hi39 => simp only [List.getElem?_toArray, List.getElem?_cons_succ, List.getElem?_cons_zero]; rfl
            case hs39 => kernel_rfl
            case hf39 => kernel_rfl
            case hr39 => kernel_rfl
            case hg39 => rfl
            case hy39 => (intro w hSw; first | (go_simp; done) | (go_simp; with_reducible rfl))
            case hQ39 => exact fun _ _ _ h => h
            try simp only [Act.put, List.setIfInBounds_toArray, List.set_cons_zero, List.set_cons_succ]
            refine wpAnyH_ready (rs := [4]) (by kernel_rfl) (by simp) ?_
            refine AllReadyH.cons (o := ?oi40) ?hi40 (fun K hK => ?_) AllReadyH.nil
            case hi40 => simp only [List.getElem?_toArray, List.getElem?_cons_succ, List.getElem?_cons_zero]; rfl
            go_simp
            refine hK.out _ _ ((Only.refl _ _)) (fun hHeld2 => ?_)
            clear hK K hHeld
            have hHeld := hHeld2
            clear hHeld2
            try simp only [Act.put, List.setIfInBounds_toArray, List.set_cons_zero, List.set_cons_succ]
            refine wpAnyH_take (i := 15) (oi := ?oi41) (v := ?v41) ?hi41 ?hs41 ?hf41 ?hr41 ?hQ41 (Or.inl ⟨?hg41, ?hy41⟩) hHeld ?rest41
            case hi41 => simp only [List.getElem?_toArray, List.getElem?_cons_succ, List.getElem?_cons_zero]; rfl
            case hs41 => kernel_rfl
            case hf41 => kernel_rfl
            case hr41 => kernel_rfl
            case hg41 => rfl
            case hy41 => (intro w hSw; have x0 := hsl; first | (go_simp; done) | (go_simp; with_reducible rfl))
            case hQ41 => exact fun _ _ _ h => h
            try simp only [Act.put, List.setIfInBounds_toArray, List.set_cons_zero, List.set_cons_succ]
            refine wpAnyH_ready (rs := [17]) (by kernel_rfl) (by simp) ?_
            refine AllReadyH.cons (o := ?oi42) ?hi42 (fun K hK => ?_) AllReadyH.nil
            case hi42 => simp only [List.getElem?_toArray, List.getElem?_cons_succ, List.getElem?_cons_zero]; rfl
            refine step_append_run rfl (.tmp 50) (.tmp 51) 36 36 rfl rfl rfl hap ?_
            refine hK.out _ _ ((Only.of hb6)) (fun hHeld2 => ?_)
            clear hK K hHeld
            have hHeld := hHeld2
            clear hHeld2
            try simp only [Act.put, List.setIfInBounds_toArray, List.set_cons_zero, List.set_cons_succ]
            refine wpAnyH_take (i := 18) (oi := ?oi43) (v := ?v43) ?hi43 ?hs43 ?hf43 ?hr43 ?hQ43 (Or.inl ⟨?hg43, ?hy43⟩) hHeld ?rest43
            case hi43 => simp only [List.getElem?_toArray, List.getElem?_cons_succ, List.getElem?_cons_zero]; rfl
            case hs43 => kernel_rfl
            case hf43 => kernel_rfl
            case hr43 => kernel_rfl
            case hg43 => rfl
            case hy43 => (intro w hSw; first | (go_simp; done) | (go_simp; with_reducible rfl))
            case hQ43 => exact fun _ _ _ h => h
            try simp only [Act.put, List.setIfInBounds_toArray, List.set_cons_zero, List.set_cons_succ]
            refine wpAnyH_take (i := 19) (oi := ?oi44) (v := ?v44) ?hi44 ?hs44 ?hf44 ?hr44 ?hQ44 (Or.inl ⟨?hg44, ?hy44⟩) hHeld ?rest44
            case hi44 => simp only [List.getElem?_toArray, List.getElem?_cons_succ, List.getElem?_cons_zero]; rfl
            case hs44 => kernel_rfl
            case hf44 => kernel_rfl
            case hr44 => kernel_rfl
            case hg44 => rfl
            case hy44 => (intro w hSw; first | (go_simp; done) | (go_simp; with_reducible rfl))
            case hQ44 => exact fun _ _ _ h => h
            try simp only [Act.put, List.setIfInBounds_toArray, List.set_cons_zero, List.set_cons_succ]
            refine wpAnyH_ready (rs := [20]) (by kernel_rfl) (by simp) ?_
            refine AllReadyH.cons (o := ?oi45) ?hi45 (fun K hK => ?_) AllReadyH.nil
            case hi45 => simp only [List.getElem?_toArray, List.getElem?_cons_succ, List.getElem?_cons_zero]; rfl
            go_simp
            refine hK.out _ _ (((Only.of hb6).trans (Only.set (P := fun j => j = k) w6 ⟨k, 10, none⟩ _ rfl))) (fun hHeld2 => ?_)
            clear hK K hHeld
            have hHeld := hHeld2
            clear hHeld2
            try simp only [Act.put, List.setIfInBounds_toArray, List.set_cons_zero, List.set_cons_succ]
            refine wpAnyH_done (by kernel_rfl) ?_ _
            clear hHeld
            go_wp2_with fail
            go_ret
            have W9 := Y6.out.set 10 (.slice A' (x.dn + m0) c')
            have hh9 : ∀ j, j ≠ k → (w6.setCell ⟨k, 10, none⟩ (.slice A' (x.dn + m0) c')).heap[j]? = w6.heap[j]? := fun j hj => Below.heap_setCell _ _ _ _ hj
            have hb36 : Below w3.heap.size w3 w6 := ((Below.refl w3.heap.size w3).drew).trans hb6
            have T9 := (T2.out.below hb36).reset HK.out { x with dA := A', dn := x.dn + m0, dc := c', data := x.data ++ b } rfl rfl rfl W9 (BytesAt.only hby hh9 Y6.out) hrc (fun j _ hj => hh9 j hj)
            have O9 : Only (ownT t N) w _ := Only.trans (Only.of (HB2.out.trans (hb36.mono HB2.out.size))) ((Only.set (P := fun j => j = k) w6 ⟨k, 10, none⟩ (.slice A' (x.dn + m0) c') rfl).mono (fun j _ hj => by subst hj; exact .inr (.inl ⟨x, HK.out⟩)))
            have hA := HACT.out _ k x _ T9 HK.out rfl rfl rfl rfl rfl rfl (by show (x.data ++ b).length ≤ 65536; rw [List.length_append, ← HDL.out, ← HML.out]; omega) (fun a ha => (hlow a ha).imp (fun h => Nat.le_trans HB2.out.size h) id) O9
            rw [K.out]
            refine ⟨rfl, ?_⟩
            rw [HIN.out k x HK.out]
            exact hA
        · go_simp
          refine hK.out _ _ ((Only.refl _ _)) (fun hHeld2 => ?_)
          clear hK K hHeld
          have hHeld := hHeld2
          clear hHeld2
          try simp only [Act.put, List.setIfInBounds_toArray, List.set_cons_zero, List.set_cons_succ]
          refine wpAnyH_take (i := 14) (oi := ?oi46) (v := ?v46) ?hi46 ?hs46 ?hf46 ?hr46 ?hQ46 (Or.inl ⟨?hg46, ?hy46⟩) hHeld ?rest46
          case hi46 => simp only [List.getElem?_toArray, List.getElem?_cons_succ, List.getElem?_cons_zero]; rfl
          case hs46 => kernel_rfl
          case hf46 => kernel_rfl
          case hr46 => kernel_rfl
          case hg46 => rfl
          case hy46 => (intro w hSw; first | (go_simp; done) | (go_simp; with_reducible rfl))
          case hQ46 => exact fun _ _ _ h => h
          try simp only [Act.put, List.setIfInBounds_toArray, List.set_cons_zero, List.set_cons_succ]
          refine wpAnyH_ready (rs := [4, 8]) (by kernel_rfl) (by simp) ?_
          refine AllReadyH.cons (o := ?o47_0) ?h47_0 (fun K hK => ?_) (AllReadyH.cons (o := ?o47_1) ?h47_1 (fun K hK => ?_) AllReadyH.nil)
          case h47_0 => simp only [List.getElem?_toArray, List.getElem?_cons_succ, List.getElem?_cons_zero]; rfl
          case h47_1 => simp only [List.getElem?_toArray, List.getElem?_cons_succ, List.getElem?_cons_zero]; rfl
          · go_simp
            refine hK.out _ _ ((Only.refl _ _)) (fun hHeld2 => ?_)
            clear hK K hHeld
            have hHeld := hHeld2
            clear hHeld2
            try simp only [Act.put, List.setIfInBounds_toArray, List.set_cons_zero, List.set_cons_succ]
            refine wpAnyH_ready (rs := [8]) (by kernel_rfl) (by simp) ?_
            refine AllReadyH.cons (o := ?oi48) ?hi48 (fun K hK => ?_) AllReadyH.nil
            case hi48 => simp only [List.getElem?_toArray, List.getElem?_cons_succ, List.getElem?_cons_zero]; rfl
            go_simp
            refine hK.out _ _ ((Only.refl _ _)) (fun hHeld2 => ?_)
            clear hK K hHeld
            have hHeld := hHeld2
            clear hHeld2
            try simp only [Act.put, List.setIfInBounds_toArray, List.set_cons_zero, List.set_cons_succ]
            refine wpAnyH_take (i := 9) (oi := ?oi49) (v := ?v49) ?hi49 ?hs49 ?hf49 ?hr49 ?hQ49 (Or.inl ⟨?hg49, ?hy49⟩) hHeld ?rest49
            case hi49 => simp only [List.getElem?_toArray, List.getElem?_cons_succ, List.getElem?_cons_zero]; rfl
            case hs49 => kernel_rfl
            case hf49 => kernel_rfl
            case hr49 => kernel_rfl
            case hg49 => rfl
            case hy49 => (intro w hSw; first | (go_simp; done) | (go_simp; with_reducible rfl))
            case hQ49 => exact fun _ _ _ h => h
            try simp only [Act.put, List.setIfInBounds_toArray, List.set_cons_zero, List.set_cons_succ]
            refine wpAnyH_take (i := 15) (oi := ?oi50) (v := ?v50) ?hi50 ?hs50 ?hf50 ?hr50 ?hQ50 (Or.inl ⟨?hg50, ?hy50⟩) hHeld ?rest50
            case hi50 => simp only [List.getElem?_toArray, List.getElem?_cons_succ, List.getElem?_cons_zero]; rfl
            case hs50 => kernel_rfl
            case hf50 => kernel_rfl
            case hr50 => kernel_rfl
            case hg50 => rfl
            case hy50 => (intro w hSw; have x0 := hsl; first | (go_simp; done) | (go_simp; with_reducible rfl))
            case hQ50 => exact fun _ _ _ h => h
            try simp only [Act.put, List.setIfInBounds_toArray, List.set_cons_zero, List.set_cons_succ]
            refine wpAnyH_ready (rs := [17]) (by kernel_rfl) (by simp) ?_
            refine AllReadyH.cons (o := ?oi51) ?hi51 (fun K hK => ?_) AllReadyH.nil
            case hi51 => simp only [List.getElem?_toArray, List.getElem?_cons_succ, List.getElem?_cons_zero]; rfl
            refine step_append_run rfl (.tmp 50) (.tmp 51) 36 36 rfl rfl rfl hap ?_
            refine hK.out _ _ ((Only.of hb6)) (fun hHeld2 => ?_)
            clear hK K hHeld
            have hHeld := hHeld2
            clear hHeld2
            try simp only [Act.put, List.setIfInBounds_toArray, List.set_cons_zero, List.set_cons_succ]
            refine wpAnyH_take (i := 18) (oi := ?oi52) (v := ?v52) ?hi52 ?hs52 ?hf52 ?hr52 ?hQ52 (Or.inl ⟨?hg52, ?hy52⟩) hHeld ?rest52
            case hi52 => simp only [List.getElem?_toArray, List.getElem?_cons_succ, List.getElem?_cons_zero]; rfl
            case hs52 => kernel_rfl
            case hf52 => kernel_rfl
            case hr52 => kernel_rfl
            case hg52 => rfl
            case hy52 => (intro w hSw; first | (go_simp; done) | (go_simp; with_reducible rfl))
            case hQ52 => exact fun _ _ _ h => h
            try simp only [Act.put, List.setIfInBounds_toArray, List.set_cons_zero, List.set_cons_succ]
            refine wpAnyH_take (i := 19) (oi := ?oi53) (v := ?v53) ?hi53 ?hs53 ?hf53 ?hr53 ?hQ53 (Or.inl ⟨?hg53, ?hy53⟩) hHeld ?rest53
            case hi53 => simp only [List.getElem?_toArray, List.getElem?_cons_succ, List.getElem?_cons_zero]; rfl
            case hs53 => kernel_rfl
            case hf53 => kernel_rfl
            case hr53 => kernel_rfl
            case hg53 => rfl
            case hy53 => (intro w hSw; first | (go_simp; done) | (go_simp; with_reducible rfl))
            case hQ53 => exact fun _ _ _ h => h
            try simp only [Act.put, List.setIfInBounds_toArray, List.set_cons_zero, List.set_cons_succ]
            refine wpAnyH_ready (rs := [20]) (by kernel_rfl) (by simp) ?_
            refine AllReadyH.cons (o := ?oi54) ?hi54 (fun K hK => ?_) AllReadyH.nil
            case hi54 => simp only [List.getElem?_toArray, List.getElem?_cons_succ, List.getElem?_cons_zero]; rfl
            go_simp
            refine hK.out _ _ (((Only.of hb6).trans (Only.set (P := fun j => j = k) w6 ⟨k, 10, none⟩ _ rfl))) (fun hHeld2 => ?_)
            clear hK K hHeld
            have hHeld := hHeld2
            clear hHeld2
            try simp only [Act.put, List.setIfInBounds_toArray, List.set_cons_zero, List.set_cons_succ]
            refine wpAnyH_done (by kernel_rfl) ?_ _
            clear hHeld
            go_wp2_with fail
            go_ret
            have W9 := Y6.out.set 10 (.slice A' (x.dn + m0) c')
            have hh9 : ∀ j, j ≠ k → (w6.setCell ⟨k, 10, none⟩ (.slice A' (x.dn + m0) c')).heap[j]? = w6.heap[j]? := fun j hj => Below.heap_setCell _ _ _ _ hj
            have hb36 : Below w3.heap.size w3 w6 := ((Below.refl w3.heap.size w3).drew).trans hb6
            have T9 := (T2.out.below hb36).reset HK.out { x with dA := A', dn := x.dn + m0, dc := c', data := x.data ++ b } rfl rfl rfl W9 (BytesAt.only hby hh9 Y6.out) hrc (fun j _ hj => hh9 j hj)
            have O9 : Only (ownT t N) w _ := Only.trans (Only.of (HB2.out.trans (hb36.mono HB2.out.size))) ((Only.set (P := fun j => j = k) w6 ⟨k, 10, none⟩ (.slice A' (x.dn + m0) c') rfl).mono (fun j _ hj => by subst hj; exact .inr (.inl ⟨x, HK.out⟩)))
            have hA := HACT.out _ k x _ T9 HK.out rfl rfl rfl rfl rfl rfl (by show (x.data ++ b).length ≤ 65536; rw [List.length_append, ← HDL.out, ← HML.out]; omega) (fun a ha => (hlow a ha).imp (fun h => Nat.le_trans HB2.out.size h) id) O9
            rw [K.out]
            refine ⟨rfl, ?_⟩
            rw [HIN.out k x HK.out]
            exact hA
          · go_simp
            refine hK.out _ _ ((Only.refl _ _)) (fun hHeld2 => ?_)
            clear hK K hHeld
            have hHeld := hHeld2
            clear hHeld2
            try simp only [Act.put, List.setIfInBounds_toArray, List.set_cons_zero, List.set_cons_succ]
            refine wpAnyH_take (i := 9) (oi := ?oi55) (v := ?v55) ?hi55 ?hs55 ?hf55 ?hr55 ?hQ55 (Or.inl ⟨?hg55, ?hy55⟩) hHeld ?rest55
            case hi55 => simp only [List.getElem?_toArray, List.getElem?_cons_succ, List.getElem?_cons_zero]; rfl
            case hs55 => kernel_rfl
            case hf55 => kernel_rfl
            case hr55 => kernel_rfl
            case hg55 => rfl
            case hy55 => (intro w hSw; first | (go_simp; done) | (go_simp; with_reducible rfl))
            case hQ55 => exact fun _ _ _ h => h
            try simp only [Act.put, List.setIfInBounds_toArray, List.set_cons_zero, List.set_cons_succ]
            refine wpAnyH_ready (rs := [4]) (by kernel_rfl) (by simp) ?_
            refine AllReadyH.cons (o := ?oi56) ?hi56 (fun K hK => ?_) AllReadyH.nil
            case hi56 => simp only [List.getElem?_toArray, List.getElem?_cons_succ, List.getElem?_cons_zero]; rfl
            go_simp
            refine hK.out _ _ ((Only.refl _ _)) (fun hHeld2 => ?_)
            clear hK K hHeld
            have hHeld := hHeld2
            clear hHeld2
            try simp only [Act.put, List.setIfInBounds_toArray, List.set_cons_zero, List.set_cons_succ]
            refine wpAnyH_take (i := 15) (oi := ?oi57) (v := ?v57) ?hi57 ?hs57 ?hf57 ?hr57 ?hQ57 (Or.inl ⟨?hg57, ?hy57⟩) hHeld ?rest57
            case hi57 => simp only [List.getElem?_toArray, List.getElem?_cons_succ, List.getElem?_cons_zero]; rfl
            case hs57 => kernel_rfl
            case hf57 => kernel_rfl
            case hr57 => kernel_rfl
            case hg57 => rfl
            case hy57 => (intro w hSw; have x0 := hsl; first | (go_simp; done) | (go_simp; with_reducible rfl))
            case hQ57 => exact fun _ _ _ h => h
            try simp only [Act.put, List.setIfInBounds_toArray, List.set_cons_zero, List.set_cons_succ]
            refine wpAnyH_ready (rs := [17]) (by kernel_rfl) (by simp) ?_
            refine AllReadyH.cons (o := ?oi58) ?hi58 (fun K hK => ?_) AllReadyH.nil
            case hi58 => simp only [List.getElem?_toArray, List.getElem?_cons_succ, List.getElem?_cons_zero]; rfl
            refine step_append_run rfl (.tmp 50) (.tmp 51) 36 36 rfl rfl rfl hap ?_
            refine hK.out _ _ ((Only.of hb6)) (fun hHeld2 => ?_)
            clear hK K hHeld
            have hHeld := hHeld2
            clear hHeld2
            try simp only [Act.put, List.setIfInBounds_toArray, List.set_cons_zero, List.set_cons_succ]
            refine wpAnyH_take (i := 18) (oi := ?oi59) (v := ?v59) ?hi59 ?hs59 ?hf59 ?hr59 ?hQ59 (Or.inl ⟨?hg59, ?hy59⟩) hHeld ?rest59
            case hi59 => simp only [List.getElem?_toArray, List.getElem?_cons_succ, List.getElem?_cons_zero]; rfl
            case hs59 => kernel_rfl
            case hf59 => kernel_rfl
            case hr59 => kernel_rfl
            case hg59 => rfl
            case hy59 => (intro w hSw; first | (go_simp; done) | (go_simp; with_reducible rfl))
            case hQ59 => exact fun _ _ _ h => h
            try simp only [Act.put, List.setIfInBounds_toArray, List.set_cons_zero, List.set_cons_succ]
            refine wpAnyH_take (i := 19) (oi := ?oi60) (v := ?v60) ?hi60 ?hs60 ?hf60 ?hr60 ?hQ60 (Or.inl ⟨?hg60, ?hy60⟩) hHeld ?rest60
            case hi60 => simp only [List.getElem?_toArray, List.getElem?_cons_succ, List.getElem?_cons_zero]; rfl
            case hs60 => kernel_rfl
            case hf60 => kernel_rfl
            case hr60 => kernel_rfl
            case hg60 => rfl
            case hy60 => (intro w hSw; first | (go_simp; done) | (go_simp; with_reducible rfl))
            case hQ60 => exact fun _ _ _ h => h
            try simp only [Act.put, List.setIfInBounds_toArray, List.set_cons_zero, List.set_cons_succ]
            refine wpAnyH_ready (rs := [20]) (by kernel_rfl) (by simp) ?_
            refine AllReadyH.cons (o := ?oi61) ?hi61 (fun K hK => ?_) AllReadyH.nil
            case hi61 => simp only [List.getElem?_toArray, List.getElem?_cons_succ, List.getElem?_cons_zero]; rfl
            go_simp
            refine hK.out _ _ (((Only.of hb6).trans (Only.set (P := fun j => j = k) w6 ⟨k, 10, none⟩ _ rfl))) (fun hHeld2 => ?_)
            clear hK K hHeld
            have hHeld := hHeld2
            clear hHeld2
            try simp only [Act.put, List.setIfInBounds_toArray, List.set_cons_zero, List.set_cons_succ]
            refine wpAnyH_done (by kernel_rfl) ?_ _
            clear hHeld
            go_wp2_with fail
            go_ret
            have W9 := Y6.out.set 10 (.slice A' (x.dn + m0) c')
            have hh9 : ∀ j, j ≠ k → (w6.setCell ⟨k, 10, none⟩ (.slice A' (x.dn + m0) c')).heap[j]? = w6.heap[j]? := fun j hj => Below.heap_setCell _ _ _ _ hj
            have hb36 : Below w3.heap.size w3 w6 := ((Below.refl w3.heap.size w3).drew).trans hb6
            have T9 := (T2.out.below hb36).reset HK.out { x with dA := A', dn := x.dn + m0, dc := c', data := x.data ++ b } rfl rfl rfl W9 (BytesAt.only hby hh9 Y6.out) hrc (fun j _ hj => hh9 j hj)
            have O9 : Only (ownT t N) w _ := Only.trans (Only.of (HB2.out.trans (hb36.mono HB2.out.size))) ((Only.set (P := fun j => j = k) w6 ⟨k, 10, none⟩ (.slice A' (x.dn + m0) c') rfl).mono (fun j _ hj => by subst hj; exact .inr (.inl ⟨x, HK.out⟩)))
            have hA := HACT.out _ k x _ T9 HK.out rfl rfl rfl rfl rfl rfl (by show (x.data ++ b).length ≤ 65536; rw [List.length_append, ← HDL.out, ← HML.out]; omega) (fun a ha => (hlow a ha).imp (fun h => Nat.le_trans HB2.out.size h) id) O9
            rw [K.out]
            refine ⟨rfl, ?_⟩
            rw [HIN.out k x HK.out]
            exact hA
    · have K := Lib.hid (show X = (fileU x.kind, S) by rw [← HX1.out, if_pos hf])
      have q1 : (fileU x.kind != 0) = true := by simpa using hf
      clear hf HX1
      go_wp2_with fail
      go_ret
      rw [K.out]
      exact ⟨rfl, act_same HS.out HB2.out⟩
  · have K := Lib.hid (show X = (le, S) by
      rw [← HX.out]
      cases ro with
      | none => rfl
      | some i => exact if_pos h0)
    have e1 : (le != 0) = true := by simpa using h0
    clear h0 HX
    go_wp2_with fail
    go_ret
    rw [K.out]
    exact ⟨rfl, act_same HS.out HB2.out⟩
end Go.Proofs.YtlbbehfbjbbckaaGreatDoor

/-! An act on the program's tree: Do. -/
set_option linter.unusedVariables false
set_option linter.unusedSimpArgs false
namespace Go.Proofs.YtlbbehfbjbbckaaGreatDoor
open Go.RowKit

set_option maxRecDepth 100000 in
set_option maxHeartbeats 8000000 in
theorem DoS_any (t c : Nat) (S : St) (O : Nat → Prop) (a : Ac) (w : World) (h : TreeS w t c S O) (hs : Sl 1 w a.dA a.dn (bys a.data)) (hdn : a.dn ≤ 1000000) (hp : a.path.size ≤ 100000) (hd : a.dst.size ≤ 100000) (hn0 : 0 ≤ S.next) (hn1 : S.next ≤ 1099511627776) (hls : S.ls.length ≤ 1099511627776) (hc : c ≤ 1099511627776) :
    Calls Tryz.prog 43 #[.pointer (some ⟨t, 0, none⟩), aggA a] w fun e w' => e = .returned (.int .i64 (S.doA a).1) ∧ ActPost w w' t c (S.doA a).2 O := by
  obtain ⟨X, hX⟩ : ∃ X, S.doA a = X := ⟨_, rfl⟩
  rw [hX]
  unfold St.doA at hX
  obtain ⟨ac, p, q, dA, dn, dc, data, m⟩ := a
  simp only at hX hs hp hd hdn
  have hb := (Below.refl w.heap.size w).alloc (Nat.le_refl _) (.cells #[.int .i64 ac, .string p, .string q, .slice dA dn dc, .int .i64 m.m0, .int .i64 m.m1, .int .i64 m.m2, .int .i64 m.m3, .int .i64 m.m4] 70)
  have b0 : Blk (w.alloc (.cells #[.int .i64 ac, .string p, .string q, .slice dA dn dc, .int .i64 m.m0, .int .i64 m.m1, .int .i64 m.m2, .int .i64 m.m3, .int .i64 m.m4] 70)) w.heap.size 70 (encA ⟨ac, p, q, dA, dn, dc, data, m⟩) := Blk.new w 70 (encA ⟨ac, p, q, dA, dn, dc, data, m⟩)
  obtain ⟨x0, x1, x2, x3, x4, x5, x6, x7, x8⟩ := act_cells b0
  dsimp only at x0 x1 x2 x3 x4 x5 x6 x7 x8
  have HT := Lib.hid (h.below hb)
  have HSL := Lib.hid (hs.below hb)
  have HB := Lib.hid hb
  have HX := Lib.hid hX
  clear h hs hb b0 hX
  unfold aggA
  have M1 := Lib.hid (fun w (h : TreeS w t c S O) => MkdirS_any t c S O p m w h (by omega) hn0 hn1 hc)
  have M2 := Lib.hid (fun w (h : TreeS w t c S O) (hs : Sl 1 w dA dn (bys data)) => WriteS_any t c S O p dA dn dc data m w h hs (by omega) hn0 hn1 hc)
  have M3 := Lib.hid (fun w (h : TreeS w t c S O) => SymlinkS_any t c S O p q m w h (by omega) hn0 hn1 hc)
  have M4 := Lib.hid (fun w (h : TreeS w t c S O) => LinkS_any t c S O p q w h (by omega) (by omega) hc hls)
  have M5 := Lib.hid (fun w (h : TreeS w t c S O) => RemoveS_any t c S O p w h (by omega) hls hc)
  have M6 := Lib.hid (fun w (h : TreeS w t c S O) => RenameS_any t c S O p q w h (by omega) (by omega) hc hls)
  have M7 := Lib.hid (fun w (h : TreeS w t c S O) => SetS_any t c S O p m w h (by omega))
  have M8 := Lib.hid (fun w (h : TreeS w t c S O) (hs : Sl 1 w dA dn (bys data)) => AppendS_any t c S O p dA dn dc data w h hs (by omega) (by omega))
  unfold aggM at *
  go_enter Tryz.func43, Tryz.ntmps43
  by_cases g0 : ac = 0
  · subst g0
    have K := Lib.hid (show S.mkdir p.data.toList m = X by rw [← HX.out]; simp)
    clear HX M2 M3 M4 M5 M6 M7 M8
    go_wp2_with fail
    refine (M1.out _ HT.out).mono ?_
    rintro e w1 ⟨rfl, hA⟩
    rw [K.out] at hA ⊢
    have HA := Lib.hid (act_from HB.out hA)
    clear hA M1 K
    go_wp2_with fail
    go_ret
    exact ⟨rfl, HA.out⟩
  by_cases g1 : ac = 1
  · subst g1
    have K := Lib.hid (show S.write p.data.toList data m = X by rw [← HX.out]; simp)
    clear HX M1 M3 M4 M5 M6 M7 M8
    go_wp2_with fail
    refine (M2.out _ HT.out HSL.out).mono ?_
    rintro e w1 ⟨rfl, hA⟩
    rw [K.out] at hA ⊢
    have HA := Lib.hid (act_from HB.out hA)
    clear hA M2 K
    go_wp2_with fail
    go_ret
    exact ⟨rfl, HA.out⟩
  by_cases g2 : ac = 2
  · subst g2
    have K := Lib.hid (show S.symlink p.data.toList q m = X by rw [← HX.out]; simp)
    clear HX M1 M2 M4 M5 M6 M7 M8
    go_wp2_with fail
    refine (M3.out _ HT.out).mono ?_
    rintro e w1 ⟨rfl, hA⟩
    rw [K.out] at hA ⊢
    have HA := Lib.hid (act_from HB.out hA)
    clear hA M3 K
    go_wp2_with fail
    go_ret
    exact ⟨rfl, HA.out⟩
  by_cases g3 : ac = 3
  · subst g3
    have K := Lib.hid (show S.link p.data.toList q.data.toList = X by rw [← HX.out]; simp)
    clear HX M1 M2 M3 M5 M6 M7 M8
    go_wp2_with fail
    refine (M4.out _ HT.out).mono ?_
    rintro e w1 ⟨rfl, hA⟩
    rw [K.out] at hA ⊢
    have HA := Lib.hid (act_from HB.out hA)
    clear hA M4 K
    go_wp2_with fail
    go_ret
    exact ⟨rfl, HA.out⟩
  by_cases g4 : ac = 4
  · subst g4
    have K := Lib.hid (show S.remove p.data.toList = X by rw [← HX.out]; simp)
    clear HX M1 M2 M3 M4 M6 M7 M8
    go_wp2_with fail
    refine (M5.out _ HT.out).mono ?_
    rintro e w1 ⟨rfl, hA⟩
    rw [K.out] at hA ⊢
    have HA := Lib.hid (act_from HB.out hA)
    clear hA M5 K
    go_wp2_with fail
    go_ret
    exact ⟨rfl, HA.out⟩
  by_cases g5 : ac = 5
  · subst g5
    have K := Lib.hid (show S.rename p.data.toList q.data.toList = X by rw [← HX.out]; simp)
    clear HX M1 M2 M3 M4 M5 M7 M8
    go_wp2_with fail
    refine (M6.out _ HT.out).mono ?_
    rintro e w1 ⟨rfl, hA⟩
    rw [K.out] at hA ⊢
    have HA := Lib.hid (act_from HB.out hA)
    clear hA M6 K
    go_wp2_with fail
    go_ret
    exact ⟨rfl, HA.out⟩
  by_cases g6 : ac = 6
  · subst g6
    have K := Lib.hid (show S.set p.data.toList m = X by rw [← HX.out]; simp)
    clear HX M1 M2 M3 M4 M5 M6 M8
    go_wp2_with fail
    refine (M7.out _ HT.out).mono ?_
    rintro e w1 ⟨rfl, hA⟩
    rw [K.out] at hA ⊢
    have HA := Lib.hid (act_from HB.out hA)
    clear hA M7 K
    go_wp2_with fail
    go_ret
    exact ⟨rfl, HA.out⟩
  by_cases g7 : ac = 7
  · subst g7
    have K := Lib.hid (show S.append p.data.toList data = X by rw [← HX.out]; simp)
    clear HX M1 M2 M3 M4 M5 M6 M7
    go_wp2_with fail
    refine (M8.out _ HT.out HSL.out).mono ?_
    rintro e w1 ⟨rfl, hA⟩
    rw [K.out] at hA ⊢
    have HA := Lib.hid (act_from HB.out hA)
    clear hA M8 K
    go_wp2_with fail
    go_ret
    exact ⟨rfl, HA.out⟩
  have K := Lib.hid (show ((0 : Int), S) = X by rw [← HX.out]; simp [g0, g1, g2, g3, g4, g5, g6, g7])
  clear HX M1 M2 M3 M4 M5 M6 M7 M8
  go_wp2_with fail
  go_ret
  rw [← K.out]
  exact ⟨rfl, act_from HB.out (act_same HT.out (Below.refl _ _))⟩
end Go.Proofs.YtlbbehfbjbbckaaGreatDoor

/-! A tree of acts: the program's Build; whether acts are few and light. -/
set_option linter.unusedVariables false
set_option linter.unusedSimpArgs false
namespace Go.Proofs.YtlbbehfbjbbckaaGreatDoor
open Go.RowKit

theorem encAs_len (L : List Ac) : (encAs L).length = L.length * 9 := by
  induction L with
  | nil => rfl
  | cons y L ih =>
    show (encA y ++ encAs L).length = _
    rw [List.length_append, ih, List.length_cons, show (encA y).length = 9 from rfl]; omega
theorem Sl.acLen {w : World} {A : Option Addr} {n : Nat} {L : List Ac} (h : Sl 9 w A n (encAs L)) : L.length = n := by have := h.len; rw [encAs_len] at this; omega
theorem Sl.acRow {w : World} {A : Option Addr} {n : Nat} {L : List Ac} (h : Sl 9 w A n (encAs L)) {i : Nat} (hi : i < n) :
    ∃ (b o : Nat) (x : Ac), A = some ⟨b, o, none⟩ ∧ L[i]? = some x ∧ ∀ j v, (encA x)[j]? = some v → w.cell? ⟨b, o + i * 9 + j, none⟩ = some v := by
  have hl : L.length = n := h.acLen
  have hx : L[i]? = some (L[i]'(by omega)) := List.getElem?_eq_getElem (by omega)
  rcases h.at_ with h0 | ⟨b, o, rfl, hc⟩
  · have : (encAs L).length = 0 := by rw [h0]; rfl
    rw [encAs_len] at this; omega
  · exact ⟨b, o, _, rfl, hx, fun j v hv => by have := hc _ v (encAs_at hx j v hv); rwa [← Nat.add_assoc] at this⟩
/-- Acts that lie in memory, each with its bytes, few and light. -/
structure ActsAt (w : World) (A : Option Addr) (n : Nat) (L : List Ac) : Prop where
  row : Sl 9 w A n (encAs L)
  data : ∀ a ∈ L, Sl 1 w a.dA a.dn (bys a.data)
theorem ActsAt.below {w w' : World} {A : Option Addr} {n : Nat} {L : List Ac} (h : ActsAt w A n L) (hb : Below w.heap.size w w') : ActsAt w' A n L := ⟨h.row.below hb, fun a ha => (h.data a ha).below hb⟩
def lightA (a : Ac) : Bool := decide (a.dn ≤ 400) && (decide (a.path.size ≤ 600) && decide (a.dst.size ≤ 600))
def smallA (L : List Ac) : Bool := L.all lightA && decide (L.length ≤ 40)
theorem acts_grow (S : St) : ∀ l : List Ac, S.next ≤ (S.acts l).next ∧ (S.acts l).next ≤ S.next + (l.length : Int) ∧ (S.acts l).ls.length ≤ S.ls.length + l.length
  | [] => ⟨Int.le_refl _, by show S.next ≤ _; simp, Nat.le_refl _⟩
  | a :: l => by
    obtain ⟨h1, h2, h3⟩ := doA_grow S a
    obtain ⟨g1, g2, g3⟩ := acts_grow (S.doA a).2 l
    refine ⟨by show S.next ≤ ((S.doA a).2.acts l).next; omega, ?_, ?_⟩
    · show ((S.doA a).2.acts l).next ≤ _
      rw [List.length_cons]; omega
    · show ((S.doA a).2.acts l).ls.length ≤ _
      rw [List.length_cons]; omega
theorem take_snocG {α : Type} {L : List α} {i : Nat} {x : α} (h : L[i]? = some x) : L.take (i + 1) = L.take i ++ [x] := by
  obtain ⟨hi, he⟩ := List.getElem?_eq_some_iff.1 h
  rw [List.take_succ_eq_append_getElem hi, he]
set_option maxRecDepth 100000 in
set_option maxHeartbeats 8000000 in
theorem BuildS_any (A : Option Addr) (n cp : Nat) (L : List Ac) (w : World) (h : ActsAt w A n L) (hn : n ≤ 1000000) (hL : ∀ a ∈ L, a.dn ≤ 1000000 ∧ a.path.size ≤ 100000 ∧ a.dst.size ≤ 100000) :
    Calls Tryz.prog 11 #[.slice A n cp] w fun e w' => ∃ t, e = .returned (.pointer (some ⟨t, 0, none⟩)) ∧ TreeS w' t n (newS.acts L) (fun k => w.heap.size ≤ k) ∧ Below w.heap.size w w' := by
  have HA := Lib.hid h
  have HL := Lib.hid hL
  have hlen := h.row.acLen
  have HNW := Lib.hid (NewS_any w)
  clear h hL
  go_enter Tryz.func11, Tryz.ntmps11
  go_wp2_with fail
  refine HNW.out.mono ?_
  rintro e w1 ⟨t, rfl, hT1, hb1⟩
  have T1 := Lib.hid hT1
  have B1 := Lib.hid hb1
  clear hT1 hb1 HNW
  go_wp2_with fail
  go_loopw [4] (fun v wr => ∃ (j : Nat), v = .int .i64 j ∧ j ≤ n ∧ TreeS wr t j (newS.acts (L.take j)) (fun k => w.heap.size ≤ k) ∧ Below w.heap.size w wr) (fun v _ => n - (intOf v).toNat)
  case atStart => exact ⟨0, rfl, Nat.zero_le _, by rw [List.take_zero]; exact T1.out, B1.out⟩
  case round =>
    obtain ⟨j, rfl, hj, hT, hB⟩ := hrel
    have T2 := Lib.hid hT
    have B2 := Lib.hid hB
    clear hT hB
    rcases Nat.lt_or_ge j n with hlt | hlt
    · obtain ⟨ab, ao, x, rfl, hx, hcell⟩ := (HA.out.below B2.out).row.acRow hlt
      have hin : (j : Int) < (n : Int) := by omega
      have hov : IntKind.i64.wrap ((j : Nat) + 1 : Int) = (j : Nat) + 1 := by rw [IntKind.wrap_i64]; omega
      have hmem := List.mem_of_getElem? hx
      obtain ⟨hl1, hl2, hl3⟩ := HL.out x hmem
      obtain ⟨g1, g2, g3⟩ := acts_grow newS (L.take j)
      have hn2 : newS.next = 2 := rfl
      have hn3 : newS.ls.length = 1 := rfl
      have hn4 : (L.take j).length ≤ j := List.length_take_le _ _
      have HD := Lib.hid (DoS_any t j _ _ x wr T2.out ((HA.out.data x hmem).below B2.out) hl1 hl2 hl3 (by omega) (by omega) (by omega) (by omega))
      have HTK := Lib.hid (show newS.acts (L.take (j + 1)) = ((newS.acts (L.take j)).doA x).2 by rw [take_snocG hx, St.acts_snoc])
      have y0 := hcell 0 _ rfl
      have y1 := hcell 1 _ rfl
      have y2 := hcell 2 _ rfl
      have y3 := hcell 3 _ rfl
      have y4 := hcell 4 _ rfl
      have y5 := hcell 5 _ rfl
      have y6 := hcell 6 _ rfl
      have y7 := hcell 7 _ rfl
      have y8 := hcell 8 _ rfl
      rw [Nat.add_zero] at y0
      unfold aggA at HD
      clear hcell hx hmem hl1 hl2 hl3 g1 g2 g3 hn2 hn3 hn4 hlt
      go_wp2_with fail
      refine HD.out.mono ?_
      rintro e w2 ⟨rfl, O', hT', hO', hK'⟩
      have T3 := Lib.hid (hT'.mono (Nat.le_refl _) (O' := fun k => w.heap.size ≤ k) (fun k hk => (hK' k hk).elim id (fun g => Nat.le_trans B2.out.size g)))
      have B3 := Lib.hid (B2.out.trans (hO'.below B2.out.size (fun k hk => hk)))
      clear hT' hO' hK'
      go_wp2_with fail
      go_roundw
      case rel => exact ⟨j + 1, by go_num, by omega, by rw [HTK.out]; exact T3.out, B3.out⟩
      case measure => simp [intOf]; omega
    · obtain rfl : j = n := by omega
      have hin : ¬ ((j : Int) < (j : Int)) := by omega
      have K := Lib.hid (show TreeS wr t j (newS.acts L) (fun k => w.heap.size ≤ k) by
        have := T2.out
        rwa [List.take_of_length_le (Nat.le_of_eq hlen)] at this)
      clear hlt hj
      go_wp2_with fail
      go_ret
      exact ⟨t, rfl, K.out, B2.out⟩
end Go.Proofs.YtlbbehfbjbbckaaGreatDoor

/-! Whether acts are few and light: the document's Small. -/
set_option linter.unusedVariables false
set_option linter.unusedSimpArgs false
namespace Go.Proofs.YtlbbehfbjbbckaaGreatDoor
open Go.RowKit

theorem all_take_lightA {L : List Ac} {i : Nat} {x : Ac} (h : L[i]? = some x) : (L.take (i + 1)).all lightA = ((L.take i).all lightA && lightA x) := by
  obtain ⟨hi, he⟩ := List.getElem?_eq_some_iff.1 h
  rw [List.take_succ_eq_append_getElem hi, he, List.all_append]; simp
theorem smallA_no {L : List Ac} {i : Nat} {x : Ac} (h : L[i]? = some x) (hx : lightA x = false) : smallA L = false := by
  unfold smallA
  have : L.all lightA = false := by rw [List.all_eq_false]; exact ⟨x, List.mem_of_getElem? h, by rw [hx]; decide⟩
  rw [this]; rfl
set_option maxRecDepth 100000 in
set_option maxHeartbeats 4000000 in
theorem smallA_any (A : Option Addr) (n c : Nat) (L : List Ac) (w : World) (hs : Sl 9 w A n (encAs L)) :
    Calls Tryz.prog 8 #[.slice A n c] w fun e w' => e = .returned (.bool (smallA L)) ∧ Below w.heap.size w w' := by
  obtain ⟨X, hX⟩ : ∃ X, smallA L = X := ⟨_, rfl⟩
  have HX := Lib.hid hX
  rw [hX]
  clear hX
  have HS := Lib.hid hs
  have hln : L.length = n := hs.acLen
  have HLN := Lib.hid hln
  have hnm := hs.max
  clear hs hln
  go_enter Tryz.func8, Tryz.ntmps8
  go_wp2_with fail
  go_loopw [3] (fun v wr => ∃ i : Nat, v = .int .i64 i ∧ i ≤ n ∧ (L.take i).all lightA = true ∧ Below w.heap.size w wr) (fun v _ => n - (intOf v).toNat)
  case atStart => exact ⟨0, rfl, Nat.zero_le _, rfl, Below.refl _ _⟩
  case round =>
    obtain ⟨i, rfl, hi, hat, hb⟩ := hrel
    have HAT := Lib.hid hat
    have HB := Lib.hid hb
    clear hat
    rcases Nat.lt_or_ge i n with h | h
    · obtain ⟨b, o, x, hA, hr, hsg⟩ := (HS.out.below hb).acRow h
      have KA := Lib.hid (all_take_lightA hr)
      have KN := Lib.hid (fun h => HX.out.symm.trans (smallA_no hr h))
      have KL := Lib.hid (show lightA x = (decide (x.dn ≤ 400) && (decide (x.path.size ≤ 600) && decide (x.dst.size ≤ 600))) from rfl)
      have k1 := hsg 1 _ rfl
      have k2 := hsg 2 _ rfl
      have k3 := hsg 3 _ rfl
      have hi2 : (i : Int) < (n : Int) := by omega
      rw [hA]
      clear hsg hA hr hb
      generalize hlx : lightA x = lx at *
      obtain ⟨ac, path, dst, dA, dn, dc, data, m⟩ := x
      dsimp only at k1 k2 k3 KL
      clear hlx
      rcases Nat.lt_or_ge 400 dn with q | q
      · have q1 : (400 : Int) < (dn : Int) := by omega
        have q2 : decide ((400 : Int) < (dn : Int)) = true := decide_eq_true q1
        have K := Lib.hid (KN.out (by rw [KL.out, decide_eq_false (by omega)]; rfl))
        clear q
        go_wp2_with fail
        go_ret
        exact ⟨by rw [K.out]; rfl, HB.out⟩
      have q1 : ¬ (400 : Int) < (dn : Int) := by omega
      have q2 : decide ((400 : Int) < (dn : Int)) = false := decide_eq_false q1
      rcases Nat.lt_or_ge 600 path.size with r | r
      · have r1 : (600 : Int) < (path.size : Int) := by omega
        have r2 : decide ((600 : Int) < (path.size : Int)) = true := decide_eq_true r1
        have K := Lib.hid (KN.out (by rw [KL.out, decide_eq_false (p := path.size ≤ 600) (by omega)]; simp))
        clear r q
        go_wp2_with fail
        go_ret
        exact ⟨by rw [K.out]; rfl, HB.out⟩
      have r1 : ¬ (600 : Int) < (path.size : Int) := by omega
      have r2 : decide ((600 : Int) < (path.size : Int)) = false := decide_eq_false r1
      rcases Nat.lt_or_ge 600 dst.size with s | s
      · have s1 : (600 : Int) < (dst.size : Int) := by omega
        have s2 : decide ((600 : Int) < (dst.size : Int)) = true := decide_eq_true s1
        have K := Lib.hid (KN.out (by rw [KL.out, decide_eq_false (p := dst.size ≤ 600) (by omega)]; simp))
        clear r q s
        go_wp2_with fail
        go_ret
        exact ⟨by rw [K.out]; rfl, HB.out⟩
      have s1 : ¬ (600 : Int) < (dst.size : Int) := by omega
      have s2 : decide ((600 : Int) < (dst.size : Int)) = false := decide_eq_false s1
      have K := Lib.hid (show (L.take (i + 1)).all lightA = true by rw [KA.out, HAT.out, KL.out, decide_eq_true q, decide_eq_true r, decide_eq_true s]; rfl)
      clear q r s
      go_wp2_with fail
      go_roundw
      case rel => exact ⟨i + 1, by go_num, by omega, K.out, HB.out⟩
      case measure => simp [intOf] <;> omega
    · obtain rfl : i = n := by omega
      have K := Lib.hid (show X = decide (i ≤ 40) by
        rw [← HX.out]; unfold smallA
        have := HAT.out
        rw [List.take_of_length_le (by rw [HLN.out]; exact Nat.le_refl _)] at this
        rw [this, HLN.out]; rfl)
      have hin : ¬ ((i : Int) < (i : Int)) := by omega
      clear hi h hb
      rcases Nat.lt_or_ge 40 i with q | q
      · have q1 : ¬ (i : Int) ≤ 40 := by omega
        have q2 : decide ((i : Int) ≤ 40) = false := decide_eq_false q1
        have K := Lib.hid (show X = false by rw [K.out]; exact decide_eq_false (by omega))
        clear q
        go_wp2_with fail
        go_ret
        exact ⟨by rw [K.out]; rfl, HB.out⟩
      have q1 : (i : Int) ≤ 40 := by omega
      have q2 : decide ((i : Int) ≤ 40) = true := decide_eq_true q1
      have K := Lib.hid (show X = true by rw [K.out]; exact decide_eq_true (by omega))
      clear q
      go_wp2_with fail
      go_ret
      exact ⟨by rw [K.out]; rfl, HB.out⟩
end Go.Proofs.YtlbbehfbjbbckaaGreatDoor

/-! Where paths lead in a tree: plainly. -/
set_option linter.unusedVariables false
set_option linter.unusedSimpArgs false
namespace Go.Proofs.YtlbbehfbjbbckaaGreatDoor
open Go.RowKit

/-- Something stands there, and is no link. -/
def goodK (K : List UInt8 → Option (Int × List UInt8)) (p : List UInt8) : Prop := ∃ k t, K p = some (k, t) ∧ k ≠ 3
structure TreeK (K : List UInt8 → Option (Int × List UInt8)) : Prop where
  top : ∃ t, K [] = some (2, t)
  right : ∀ p k t, K p = some (k, t) → rightB p = true
  up : ∀ p k t, K p = some (k, t) → p ≠ [] → ∃ t', K (parentB p) = some (2, t')
theorem kindS_at {S : St} (h : OkS S) {p : List UInt8} {k : Int} {t : List UInt8} : S.kindS p = some (k, t) ↔ rightB p = true ∧ ∃ i, S.at p = some i ∧ (S.th i).kind = k ∧ (S.th i).target.data.toList = t := by
  have hto : ∀ i, rightB p = true → S.at p = some i → thereS (S.look p) = (some i, 0) := fun i hr hi => by
    have hl : S.look p = (some i, 0) := by
      unfold St.look
      rw [if_neg (by rw [hr]; simp)]
      by_cases hp : p = []
      · subst hp
        rw [if_pos rfl]
        rw [h.top] at hi
        rw [← Option.some.inj hi]
      · rw [if_neg hp]
        obtain ⟨d, h1, h2⟩ := h.up _ ((h.at_iff _ _).1 hi) hp
        have h1 : S.at (parentB p) = some d := h1
        rw [h1]
        simp only
        rw [if_pos h2, hi]
    rw [hl]
    exact if_neg (by simp)
  unfold St.kindS
  constructor
  · intro hk
    cases hr : thereS (S.look p) with
    | mk o e =>
      rw [hr] at hk
      cases o with
      | none => cases hk
      | some i =>
        simp only at hk
        split at hk
        · rename_i he
          subst he
          obtain ⟨h1, h2⟩ := there_at h hr
          simp only [Option.some.injEq, Prod.mk.injEq] at hk
          exact ⟨h2, i, h1, hk.1, hk.2⟩
        · cases hk
  · rintro ⟨hr, i, hi, rfl, rfl⟩
    rw [hto i hr hi]
    simp
theorem OkS.treeK {S : St} (h : OkS S) : TreeK S.kindS := by
  refine ⟨⟨_, (kindS_at h).2 ⟨rfl, 1, h.top, h.kind1, rfl⟩⟩, fun p k t hk => ((kindS_at h).1 hk).1, fun p k t hk hp => ?_⟩
  obtain ⟨hr, i, hi, _, _⟩ := (kindS_at h).1 hk
  obtain ⟨d, h1, h2⟩ := h.up _ ((h.at_iff _ _).1 hi) hp
  exact ⟨_, (kindS_at h).2 ⟨rightB_parent hr, d, h1, h2, rfl⟩⟩
theorem goodK.up {K : List UInt8 → Option (Int × List UInt8)} (hK : TreeK K) {p : List UInt8} (h : goodK K p) : goodK K (parentB p) := by
  obtain ⟨k, t, h1, h2⟩ := h
  by_cases hp : p = []
  · subst hp; exact ⟨k, t, h1, h2⟩
  · obtain ⟨t', h3⟩ := hK.up p k t h1 hp
    exact ⟨2, t', h3, by decide⟩
theorem stepW_good {K : List UInt8 → Option (Int × List UInt8)} (hK : TreeK K) {s : Wk} (h : goodK K s.at_) : goodK K (stepW K s).1.at_ := by
  unfold stepW
  split
  · exact h
  split
  · exact h
  split
  · exact h
  split
  · unfold upW
    split
    · exact h
    · exact h.up hK
  · unfold enterW
    split
    · exact h
    · rename_i k tg hk
      split
      · rename_i hne; exact ⟨k, tg, hk, hne⟩
      split
      · exact h
      · show goodK K (if tg[0]? = some 47 then [] else s.at_)
        split
        · obtain ⟨t, ht⟩ := hK.top
          exact ⟨2, t, ht, by decide⟩
        · exact h
theorem runW_good {K : List UInt8 → Option (Int × List UInt8)} (hK : TreeK K) : ∀ (n : Nat) (s : Wk) (q : List UInt8), goodK K s.at_ → runW K n s = (q, 0) → goodK K q
  | 0, s, q, h, he => by
    rw [runW] at he
    rw [← (Prod.mk.inj he).1]; exact h
  | n + 1, s, q, h, he => by
    rw [runW] at he
    split at he
    · rw [← (Prod.mk.inj he).1]; exact h
    · split at he
      · exact runW_good hK n _ q (stepW_good hK h) he
      · rename_i hne
        exact absurd (Prod.mk.inj he).2 hne
theorem resolve_good {K : List UInt8 → Option (Int × List UInt8)} (hK : TreeK K) {p q : List UInt8} (h : resolveU K p = (q, 0)) : goodK K q := by
  unfold resolveU at h
  split at h
  · have := (Prod.mk.inj h).2; simp at this
  · obtain ⟨t, ht⟩ := hK.top
    exact runW_good hK _ _ q ⟨2, t, ht, by decide⟩ h
theorem joinP_glue {p x : List UInt8} : joinP p x = glueB (splitB p ++ [x]) := by
  unfold joinP
  by_cases hp : p = []
  · subst hp; rw [if_pos rfl]; rfl
  · rw [if_neg hp, glueB_snoc _ _ (fun e => hp (splitB_nil_iff.1 e)), glue_split]
/-- Along a path without links. -/
theorem runW_plain {K : List UInt8 → Option (Int × List UInt8)} (hK : TreeK K) {q : List UInt8} (hq : goodK K q) : ∀ (r : List (List UInt8)) (a : List UInt8) (n : Nat) (hops : Nat), rightB a = true → splitB q = splitB a ++ r → r.length ≤ n → goodK K a → runW K n ⟨a, r, hops⟩ = (q, 0)
  | [], a, n, hops, ha, hs, hn, hg => by
    rw [List.append_nil] at hs
    obtain rfl := splitB_inj hs
    cases n with
    | zero => rfl
    | succ n => rfl
  | x :: r, a, 0, hops, ha, hs, hn, hg => by simp at hn
  | x :: r, a, n + 1, hops, ha, hs, hn, hg => by
    obtain ⟨kq, tq, hkq, hkq3⟩ := hq
    have hqr := hK.right q kq tq hkq
    have hx := right_part hqr (x := x) (by rw [hs]; simp)
    have hpre : ∀ (m : Nat) (Z : List (List UInt8)) (y : List UInt8), m = Z.length → (∃ k t, K y = some (k, t) ∧ k ≠ 3) → ∀ b, rightB b = true → splitB y = splitB b ++ Z → (∃ k t, K b = some (k, t) ∧ k ≠ 3) ∧ (Z ≠ [] → ∃ t, K b = some (2, t)) := by
      intro m
      induction m with
      | zero =>
        intro Z y hm hy b hb hsy
        obtain rfl : Z = [] := List.eq_nil_of_length_eq_zero hm.symm
        rw [List.append_nil] at hsy
        obtain rfl := splitB_inj hsy
        exact ⟨hy, fun e => absurd rfl e⟩
      | succ m ih =>
        intro Z y hm hy b hb hsy
        have hZ : Z ≠ [] := fun e => by rw [e] at hm; cases hm
        obtain ⟨ky, ty, hky, hky3⟩ := hy
        have hyr := hK.right y ky ty hky
        have hy0 : y ≠ [] := fun e => by rw [e, splitB_nil] at hsy; exact hZ (List.append_eq_nil_iff.1 hsy.symm).2
        have hsp := split_parent hy0 hyr
        rw [hsy, ← List.dropLast_concat_getLast hZ, ← List.append_assoc] at hsp
        have h3 := (List.append_inj' hsp rfl).1.symm
        obtain ⟨t', ht'⟩ := hK.up y ky ty hky hy0
        obtain ⟨g1, g2⟩ := ih Z.dropLast (parentB y) (by rw [List.length_dropLast]; omega) ⟨2, t', ht', by decide⟩ b hb h3
        refine ⟨g1, fun _ => ?_⟩
        by_cases hd : Z.dropLast = []
        · rw [hd, List.append_nil] at h3
          rw [← splitB_inj h3]; exact ⟨t', ht'⟩
        · exact g2 hd
    obtain ⟨_, g2⟩ := hpre _ (x :: r) q rfl ⟨kq, tq, hkq, hkq3⟩ a ha hs
    obtain ⟨ta, hta⟩ := g2 (by simp)
    have hdir : dirK K a = true := by unfold dirK; rw [hta]; rfl
    obtain ⟨b, hb, hsb⟩ := right_pfx hqr (n := r.length) (X := splitB a ++ [x]) (Z := r) rfl (by rw [hs, List.append_assoc]; rfl)
    have hjb : joinP a x = b := by rw [joinP_glue, ← hsb, glue_split]
    obtain ⟨⟨kb, tb, hkb, hkb3⟩, _⟩ := hpre _ r q rfl ⟨kq, tq, hkq, hkq3⟩ b hb (by rw [hsb, hs, List.append_assoc]; rfl)
    have hx1 : ¬ (x = [] ∨ x = [46]) := fun e => by
      unfold partOk at hx
      simp only [Bool.and_eq_true, decide_eq_true_eq] at hx
      rcases e with e | e
      · exact hx.1 e
      · exact hx.2.2.1 e
    have hx2 : ¬ x = [46, 46] := fun e => by
      unfold partOk at hx
      simp only [Bool.and_eq_true, decide_eq_true_eq] at hx
      exact hx.2.2.2.1 e
    have hstep : stepW K ⟨a, x :: r, hops⟩ = (⟨b, r, hops⟩, 0) := by
      unfold stepW
      simp only
      rw [if_neg (by rw [hdir]; simp), if_neg hx1, if_neg hx2]
      unfold enterW
      simp only
      rw [hjb, hkb]
      simp only
      rw [if_pos hkb3]
    rw [runW]
    simp only [hstep, if_true]
    exact runW_plain hK ⟨kq, tq, hkq, hkq3⟩ r b n hops hb (by rw [hsb, hs, List.append_assoc]; rfl) (by simpa using hn) ⟨kb, tb, hkb, hkb3⟩
theorem resolve_self {K : List UInt8 → Option (Int × List UInt8)} (hK : TreeK K) {q : List UInt8} (hq : goodK K q) : resolveU K q = (q, 0) := by
  obtain ⟨k, t, h1, h2⟩ := hq
  have hr := hK.right q k t h1
  unfold resolveU
  rw [if_neg (by rw [hr]; simp)]
  obtain ⟨t0, ht⟩ := hK.top
  exact runW_plain hK ⟨k, t, h1, h2⟩ (splitB q) [] _ 0 rfl rfl (by unfold leftW; simp only; omega) ⟨2, t0, ht, by decide⟩
end Go.Proofs.YtlbbehfbjbbckaaGreatDoor

/-! What is told of a path of a tree: whether there is something, and of what kind. -/
set_option linter.unusedVariables false
set_option linter.unusedSimpArgs false
namespace Go.Proofs.YtlbbehfbjbbckaaGreatDoor
open Go.RowKit

theorem StatS_any (t c : Nat) (S : St) (O : Nat → Prop) (p : ByteArray) (w : World) (h : TreeS w t c S O) (hp : p.size ≤ 2097152) :
    Calls Tryz.prog 26 #[.pointer (some ⟨t, 0, none⟩), .string p] w fun e w' => (∃ s e0, e = .returned (.tuple #[aggT s, .int .i64 e0]) ∧ (goodK S.kindS p.data.toList ↔ e0 = 0 ∧ s.kind ≠ 3)) ∧ Below w.heap.size w w' := by
  obtain ⟨top, N, hT, hR, ho, hO⟩ := h
  refine (Stat_any t top c S.next N p w hT hp).mono ?_
  rintro e w' ⟨⟨s, hs, rfl⟩, hb⟩
  refine ⟨⟨s, _, rfl, ?_⟩, hb⟩
  have hk := hR.kind ho p.data.toList
  unfold kindP at hk
  have hsome : ∀ k d, thereU (lookN N top p.data.toList) = (some k, d, 0) → ∃ x, N k = some x := fun k d h0 => by
    have := there_look h0
    exact look_some hT this
  have hno : (thereU (lookN N top p.data.toList)).2.2 = 0 → (thereU (lookN N top p.data.toList)).1 ≠ none := fun h0 h1 => by
    unfold thereU at h0 h1
    split at h0
    · simp at h0
    · rename_i hne
      rw [if_neg hne] at h1
      exact hne ⟨h0, h1⟩
  generalize thereU (lookN N top p.data.toList) = r at *
  obtain ⟨o, d, e0⟩ := r
  unfold goodK
  rw [← hk]
  by_cases h0 : e0 = 0
  · subst h0
    cases o with
    | none => exact absurd rfl (hno rfl)
    | some k =>
      obtain ⟨n, kk, hn, _, rfl⟩ := hs
      simp only [hn, if_true, Option.map_some, Option.some.injEq, Prod.mk.injEq]
      constructor
      · rintro ⟨k', t', ⟨rfl, rfl⟩, h3⟩
        exact ⟨trivial, h3⟩
      · rintro ⟨_, h3⟩
        exact ⟨_, _, ⟨rfl, rfl⟩, h3⟩
  · cases o with
    | none =>
      simp only
      constructor
      · rintro ⟨_, _, h, _⟩; cases h
      · rintro ⟨h, _⟩; exact absurd h h0
    | some k =>
      simp only [if_neg h0]
      constructor
      · rintro ⟨_, _, h, _⟩; cases h
      · rintro ⟨h, _⟩; exact absurd h h0
end Go.Proofs.YtlbbehfbjbbckaaGreatDoor

/-! Where paths lead: the law LinkEnds, walked. -/
set_option linter.unusedVariables false
set_option linter.unusedSimpArgs false
namespace Go.Proofs.YtlbbehfbjbbckaaGreatDoor
open Go.RowKit

theorem parent_less {x : List UInt8} (h : x ≠ []) : (parentB x).length < x.length := by
  unfold parentB
  rw [List.length_take]
  have h1 := lastB_le x
  have h2 : x.length ≠ 0 := fun e => h (List.eq_nil_of_length_eq_zero e)
  omega
theorem resolve_none {K : List UInt8 → Option (Int × List UInt8)} {p q : List UInt8} {e : Int} (h : resolveU K p = (q, e)) (he : e ≠ 0) (hK : TreeK K) : ¬ goodK K p := fun hg => by
  rw [resolve_self hK hg] at h
  exact he (Prod.mk.inj h).2.symm
def lenOf : Value → Nat
  | .string s => s.size
  | _ => 0
end Go.Proofs.YtlbbehfbjbbckaaGreatDoor
