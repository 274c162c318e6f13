import Derived.Test.YtlbbehfbjbbckaaGreatDoorQn
/-! The document's tree: what stands in a directory, a thing's names. -/
set_option linter.unusedVariables false
set_option linter.unusedSimpArgs false
namespace Go.Proofs.YtlbbehfbjbbckaaGreatDoor
open Go.RowKit
attribute [local go_sem] str_toList

def inF (p : List UInt8) (x : List UInt8 × Int) : List (List UInt8) := if parentB x.1 = p then [baseB x.1] else []
def inL (S : St) (p : List UInt8) : List (List UInt8) := (S.ls.drop 1).flatMap (inF p)
def nmF (i : Int) (x : List UInt8 × Int) : List (List UInt8) := if x.2 = i then [x.1] else []
def namesL (S : St) (i : Int) : List (List UInt8) := S.ls.flatMap (nmF i)
theorem flat_len {α β : Type} (f : α → List β) (h : ∀ x, (f x).length ≤ 1) : ∀ l : List α, (l.flatMap f).length ≤ l.length
  | [] => Nat.le_refl _
  | x :: l => by
    rw [List.flatMap_cons, List.length_append, List.length_cons]
    have := flat_len f h l
    have := h x
    omega
theorem inF_len (p : List UInt8) (x : List UInt8 × Int) : (inF p x).length ≤ 1 := by unfold inF; split <;> simp
theorem nmF_len (i : Int) (x : List UInt8 × Int) : (nmF i x).length ≤ 1 := by unfold nmF; split <;> simp
theorem take_flat {α β : Type} (f : α → List β) {l : List α} {i : Nat} {x : α} (h : l[i]? = some x) : (l.take (i + 1)).flatMap f = (l.take i).flatMap f ++ f x := by
  obtain ⟨hi, he⟩ := List.getElem?_eq_some_iff.1 h
  rw [List.take_succ_eq_append_getElem hi, he, List.flatMap_append]; simp
/-- A text more, behind a row of texts. -/
theorem push_str {w0 wr : World} {v : Value} {l : List (List UInt8)} (x : List UInt8) (hr : wr.ownsRow w0.heap.size 9 1 v l.length (strs l)) (hb : Below w0.heap.size w0 wr) (hl : l.length ≤ 1000000) :
    ∃ A m c w', (Builtin.append_ #[35, 35] 35 #[v, .slice (some ⟨wr.heap.size, 0, none⟩) 1 1]).run Tryz.prog (wr.alloc (.cells #[.string (str x)] 9)) = .ok (.slice A m c) w' ∧ w'.ownsRow w0.heap.size 9 1 (.slice A m c) (l ++ [x]).length (strs (l ++ [x])) ∧ Below w0.heap.size w0 w' := by
  obtain ⟨i0, hi0, hz0, hz1, hz2⟩ := info_parts infoS
  have hb4 := (Below.refl wr.heap.size wr).alloc (Nat.le_refl _) (.cells #[.string (str x)] 9)
  have hsl4 : Sl 1 (wr.alloc (.cells #[.string (str x)] 9)) (some ⟨wr.heap.size, 0, none⟩) 1 (strs [x]) := (Blk.new wr 9 [.string (str x)]).sl (o := 0) (n := 1) (sz := 1) (ds := [.string (str x)]) rfl rfl (by omega)
  have hr4 := row_heap hr (fun b hb => hb4.block b (row_lt hr hb).2)
  have hz4 : (wr.alloc (.cells #[.string (str x)] 9)).heap.size = wr.heap.size + 1 := World.size_alloc _ _
  have hsz := hb.size
  obtain ⟨v4, w4, hap4, hown4, hg4⟩ := run_append_sl (P := Tryz.prog) (w := wr.alloc (.cells #[.string (str x)] 9)) w0.heap.size 35 35 9 i0 _ 1 16 Tryz.underlying35 hi0 hz0 hz1 hz2 rfl (by decide) hr4 (c := 1) hsl4 (one_strs [x]) (by omega) (by omega) (by omega)
  rw [← strs_app] at hown4
  have O4 : w4.ownsRow w0.heap.size 9 1 v4 (l ++ [x]).length (strs (l ++ [x])) := by rw [List.length_append]; exact hown4
  obtain ⟨A4, c4, rfl, _⟩ := own_strs hown4 (by omega)
  exact ⟨A4, _, c4, w4, hap4, O4, (hb.trans (hb4.mono hsz)).grown hg4 (by omega) (fun k hk => (row_lt hr4 hk).1)⟩
/-- Texts, sorted, in a row of their own. -/
def SortOf (w : World) (base : Nat) (l : List (List UInt8)) (v : Value) : Prop := ∃ L', w.ownsRow base 9 1 v l.length (strs L') ∧ L'.Perm l ∧ SortedL L'
set_option maxRecDepth 100000 in
set_option maxHeartbeats 8000000 in
theorem In_any (t : Nat) (v : Value) (S : St) (B : Int → Nat) (D : Int → Dt) (p : ByteArray) (w : World) (h : DocAt w t v S B D) (ho : OkS S) (ht : TopS S) (hl : S.ls.length ≤ 1000000) :
    Calls Tryz.prog 98 #[.pointer (some ⟨t, 0, none⟩), .string p] w fun e w' => (∃ v, e = .returned v ∧ SortOf w' w.heap.size (inL S p.data.toList) v) ∧ Below w.heap.size w w' := by
  obtain ⟨g, cap, rfl, hcap, hcm, hcell⟩ := h.list ht
  obtain ⟨r, hr⟩ := ht.cons
  have HC := Lib.hid hcell
  have HGET := Lib.hid (fun (i : Nat) (x : List UInt8 × Int) (h : r[i]? = some x) => (show S.ls[i + 1]? = some x from by rw [hr]; exact h))
  have HRI := Lib.hid (fun (i : Nat) (x : List UInt8 × Int) (h : r[i]? = some x) => (show x.1.length ≤ 2097152 from by
    have := rightB_len (ho.right x (by rw [hr]; exact List.mem_cons_of_mem _ (List.mem_of_getElem? h)))
    omega))
  have HIN := Lib.hid (show inL S p.data.toList = r.flatMap (inF p.data.toList) by unfold inL; rw [hr]; rfl)
  have hrl : r.length + 1 = S.ls.length := by rw [hr]; rfl
  obtain ⟨n, hn⟩ : ∃ n, S.ls.length = n := ⟨_, rfl⟩
  rw [hn] at hrl hl
  have HRL := Lib.hid hrl
  have HLL := Lib.hid hl
  rw [HIN.out]
  rw [hn] at HC
  have HSRT := Lib.hid (fun A c L w' h1 h2 h3 h4 => refSort_any L.length A c L w' h1 h2 h3 h4)
  clear h ho ht hcell hr hn hcap
  go_enter Tryz.func98, Tryz.ntmps98
  go_wp2_with fail
  go_loopw [5, 6] (fun u a wr => ∃ (j : Nat) (l : List (List UInt8)), a = .int .i64 ((j : Int) + 1) ∧ j + 1 ≤ n ∧ l = (r.take j).flatMap (inF p.data.toList) ∧ wr.ownsRow w.heap.size 9 1 u l.length (strs l) ∧ Below w.heap.size w wr) (fun _ a _ => n - (intOf a).toNat)
  case atStart => exact ⟨0, [], rfl, by omega, rfl, World.ownsRow_nil _ _ _ _, Below.refl _ _⟩
  case round =>
    obtain ⟨j, l, rfl, hj, hlq, hO, hB⟩ := hrel
    have HLQ := Lib.hid hlq
    have HO := Lib.hid hO
    have HB := Lib.hid hB
    have hfl := flat_len _ (inF_len p.data.toList) (r.take j)
    have htl : (r.take j).length ≤ j := List.length_take_le _ _
    have HFL := Lib.hid (show l.length ≤ 1000000 by rw [hlq]; have := HLL.out; omega)
    clear hfl htl hlq
    obtain ⟨A1, c1, rfl, hc1, hc2, hs1⟩ := own_strs hO (by have := HFL.out; omega)
    obtain ⟨x0, x1, hx⟩ := HC.out wr hB
    have HX := Lib.hid hx
    clear hO hB hx
    rcases Nat.lt_or_ge (j + 1) n with h | h
    · obtain ⟨y, hy⟩ : ∃ y, r[j]? = some y := ⟨_, List.getElem?_eq_getElem (by have := HRL.out; omega)⟩
      obtain ⟨z0, z1, _⟩ := HX.out (j + 1) y (HGET.out j y hy)
      have HTK := Lib.hid (take_flat (inF p.data.toList) hy)
      have hyl := HRI.out j y hy
      have HPA := Lib.hid (fun w => refParent_any (str y.1) _ w rfl (by rw [str_size]; exact hyl))
      have HBA := Lib.hid (fun w => refBase_any (str y.1) _ w rfl (by rw [str_size]; exact hyl))
      rw [str_data] at HPA HBA
      have HY := Lib.hid (show inF p.data.toList y = if parentB y.1 = p.data.toList then [baseB y.1] else [] from rfl)
      have hi2 : (j : Int) + 1 < (n : Int) := by omega
      have hi3 : ((j : Int) + 1).toNat = j + 1 := by omega
      have hi4 : (0 : Int) ≤ (j : Int) + 1 := by omega
      have HJ := Lib.hid h
      generalize parentB y.1 = py at *
      generalize baseB y.1 = by_ at *
      generalize str y.1 = sy at *
      clear hy hyl h hj
      go_wp2_with fail
      refine (HPA.out wr).mono ?_
      rintro e w2 ⟨rfl, hb2⟩
      have B2 := Lib.hid (HB.out.trans (hb2.mono HB.out.size))
      have O2 := Lib.hid (row_heap HO.out (fun b hb => hb2.block b (row_lt HO.out hb).2))
      obtain ⟨x0, x1, hx2⟩ := HC.out w2 B2.out
      have z0 := cell_below z0 hb2
      clear hb2 HPA hx2
      obtain ⟨q, hq⟩ : ∃ q, str py = q := ⟨_, rfl⟩
      rw [hq]
      by_cases e : q = p
      · subst e
        have KF := Lib.hid (show inF q.data.toList y = [by_] by rw [HY.out, if_pos (by rw [← hq, str_data])])
        clear hq HY
        go_wp2_with fail
        refine (HBA.out w2).mono ?_
        rintro e w3 ⟨rfl, hb3⟩
        have B3 := Lib.hid (B2.out.trans (hb3.mono B2.out.size))
        have O3 := Lib.hid (row_heap O2.out (fun b hb => hb3.block b (row_lt O2.out hb).2))
        clear hb3 HBA
        obtain ⟨A4, m4, c4, w4, hap, hO4, hB4⟩ := push_str by_ O3.out B3.out HFL.out
        have O4 := Lib.hid hO4
        have HL4 := Lib.hid (show l ++ [by_] = (r.take (j + 1)).flatMap (inF q.data.toList) by rw [HTK.out, KF.out, HLQ.out])
        have B4 := Lib.hid hB4
        clear hO4 hB4 z0 z1 x0 x1
        go_wp2_with (at_builtin; refine halt_in ?_)
        refine Halted.out (wpList_append_run rfl _ _ _ _ rfl rfl rfl hap ?_)
        clear hap
        have wj : IntKind.i64.wrap ((j : Int) + 1 + 1) = (j : Int) + 1 + 1 := by rw [IntKind.wrap_i64]; have := HJ.out; have := HLL.out; omega
        go_wp2_with fail
        go_roundw
        case rel => exact ⟨j + 1, _, by go_num, by have := HJ.out; omega, HL4.out, O4.out, B4.out⟩
        case measure => have := HJ.out; simp [intOf] <;> omega
      · have e1 := ne_toListD e
        have KF := Lib.hid (show inF p.data.toList y = [] by rw [HY.out, if_neg (fun h => e (by rw [← hq, h, str_of]))])
        have HL4 := Lib.hid (show l = (r.take (j + 1)).flatMap (inF p.data.toList) by rw [HTK.out, KF.out, List.append_nil, HLQ.out])
        clear e hq HY z0 z1 x0 x1
        have wj : IntKind.i64.wrap ((j : Int) + 1 + 1) = (j : Int) + 1 + 1 := by rw [IntKind.wrap_i64]; have := HJ.out; have := HLL.out; omega
        go_wp2_with fail
        go_roundw
        case rel => exact ⟨j + 1, l, by go_num, by have := HJ.out; omega, HL4.out, O2.out, B2.out⟩
        case measure => have := HJ.out; simp [intOf] <;> omega
    · have hin : ¬ ((j : Int) + 1 < (n : Int)) := by omega
      have HE := Lib.hid (show r.flatMap (inF p.data.toList) = l by rw [HLQ.out, List.take_of_length_le (by have := HRL.out; omega)])
      have HMEM := Lib.hid (show ∀ x ∈ r.flatMap (inF p.data.toList), x.length ≤ 2097152 from fun x hx => by
        obtain ⟨y, hy, hxy⟩ := List.mem_flatMap.1 hx
        obtain ⟨k, hk⟩ := List.getElem?_of_mem hy
        have := HRI.out k y hk
        unfold inF at hxy
        split at hxy
        · rw [List.mem_singleton] at hxy
          rw [hxy]
          exact Nat.le_trans (baseB_len _) this
        · cases hxy)
      rw [HE.out] at HMEM
      have HS := Lib.hid (HSRT.out A1 c1 _ wr hc1 hs1 HMEM.out HFL.out)
      clear h hj hs1 hc1
      go_wp2_with fail
      refine HS.out.mono ?_
      rintro e w2 ⟨⟨v2, L2, rfl, hO2, hP2, hS2⟩, hb2⟩
      have K := Lib.hid (show SortOf w2 w.heap.size l v2 ∧ Below w.heap.size w w2 from
        ⟨⟨L2, ⟨hO2.1, hO2.2.imp id (fun ⟨g, cap, cur, a, b, r⟩ => ⟨g, cap, cur, a, Nat.le_trans HB.out.size b, r⟩)⟩, hP2, hS2⟩, HB.out.trans (hb2.mono HB.out.size)⟩)
      obtain ⟨A2, c2, rfl, _⟩ := own_strs hO2 (by have := HFL.out; omega)
      clear hO2 hP2 hS2 hb2
      go_wp2_with fail
      go_ret
      rw [HE.out]
      exact ⟨⟨_, rfl, K.out.1⟩, K.out.2⟩
end Go.Proofs.YtlbbehfbjbbckaaGreatDoor

/-! The document's tree: a thing's names. -/
set_option linter.unusedVariables false
set_option linter.unusedSimpArgs false
namespace Go.Proofs.YtlbbehfbjbbckaaGreatDoor
open Go.RowKit
attribute [local go_sem] str_toList

/-- Names, plainly: nothing of the top, or of nothing. -/
def namesP (S : St) (p : List UInt8) : List (List UInt8) := match thereS (S.look p) with
  | (some i, e) => if e = 0 ∧ p ≠ [] then namesL S i else []
  | (none, _) => []
set_option maxRecDepth 100000 in
set_option maxHeartbeats 8000000 in
theorem Names_any (t : Nat) (v : Value) (S : St) (B : Int → Nat) (D : Int → Dt) (p : ByteArray) (w : World) (h : DocAt w t v S B D) (ho : OkS S) (ht : TopS S) (hl : S.ls.length ≤ 1000000) (hp : p.size ≤ 2097152) :
    Calls Tryz.prog 84 #[.pointer (some ⟨t, 0, none⟩), .string p] w fun e w' => (∃ v, e = .returned v ∧ SortOf w' w.heap.size (namesP S p.data.toList) v) ∧ Below w.heap.size w w' := by
  obtain ⟨g, cap, rfl, hcap, hcm, hcell⟩ := h.list ht
  have HC := Lib.hid hcell
  have HTH := Lib.hid (There_any t _ S B D p w h ho ht hl hp)
  have HMEM := Lib.hid (fun i (h : thereS (S.look p.data.toList) = (some i, 0)) => there_mem ho h)
  have HERR := Lib.hid (show (thereS (S.look p.data.toList)).2 = 0 → _ from thereS_err)
  have HT := Lib.hid h
  have HRI := Lib.hid (fun (x : List UInt8 × Int) (h : x ∈ S.ls) => (show x.1.length ≤ 2097152 from by have := rightB_len (ho.right x h); omega))
  obtain ⟨n, hn⟩ : ∃ n, S.ls.length = n := ⟨_, rfl⟩
  have HN := Lib.hid hn
  rw [hn] at hl HC
  obtain ⟨X, hX⟩ : ∃ X, namesP S p.data.toList = X := ⟨_, rfl⟩
  have HX : Hid ((match thereS (S.look p.data.toList) with
  | (some i, e) => if e = 0 ∧ p.data.toList ≠ [] then namesL S i else []
  | (none, _) => []) = X) := Lib.hid hX
  rw [hX]
  have HSRT := Lib.hid (fun k A c L w' h1 h2 h3 h4 => refSort_any k A c L w' h1 h2 h3 h4)
  clear h ho ht hcell hn hcap hX
  generalize thereS (S.look p.data.toList) = lk at *
  go_enter Tryz.func84, Tryz.ntmps84
  go_wp2_with fail
  refine HTH.out.mono ?_
  rintro e w1 ⟨rfl, hb1⟩
  have B1 := Lib.hid hb1
  have T1 := Lib.hid (HT.out.below hb1)
  clear hb1 HTH HT
  obtain ⟨ro, re⟩ := lk
  have KNIL : Hid (X = [] → (∃ v, Ending.returned (.slice none 0 0) = .returned v ∧ SortOf w1 w.heap.size X v) ∧ Below w.heap.size w w1) := Lib.hid (fun h => by
    subst h
    exact ⟨⟨_, rfl, [], World.ownsRow_nil _ _ _ _, List.Perm.refl _, List.Pairwise.nil⟩, B1.out⟩)
  rcases (Classical.em (re = 0)).symm with h0 | h0
  · have K := Lib.hid (show X = [] by
      rw [← HX.out]
      cases ro with
      | none => rfl
      | some i => exact if_neg (fun h => h0 h.1))
    have e1 : (re != 0) = true := by simpa using h0
    clear h0 HX
    go_wp2_with fail
    go_ret
    exact KNIL.out K.out
  subst h0
  obtain ⟨i, hi⟩ := HERR.out (by first | rfl | trivial)
  obtain rfl : ro = some i := (Prod.mk.inj hi).1
  by_cases hz : p.size = 0
  · obtain rfl : p = ⟨#[]⟩ := ByteArray.ext (Array.size_eq_zero_iff.1 hz)
    have K := Lib.hid (show X = [] by rw [← HX.out]; exact if_neg (fun h => h.2 rfl))
    clear hz HX
    go_wp2_with fail
    go_ret
    exact KNIL.out K.out
  have hnil := nil_toList p hz
  have hne : p.data.toList ≠ [] := fun e => hz (by have : p.data.toList.length = 0 := by rw [e]; rfl
                                                   rwa [Array.length_toList] at this)
  have KX := Lib.hid (show X = S.ls.flatMap (nmF i) by rw [← HX.out]; exact if_pos ⟨rfl, hne⟩)
  clear hz hne HX KNIL
  obtain ⟨y, hy, hyi⟩ := HMEM.out i (by first | rfl | trivial)
  subst hyi
  have HY := Lib.hid (fun (w' : World) (hb : Below w1.heap.size w1 w') => (show w'.cell? ⟨B y.2, 1, none⟩ = some (.int .i64 y.2) from by
    have := ((T1.out.node y hy).below hb).cell 1
    simpa [encH] using this))
  rw [show ptrM B (some y.2) = .pointer (some ⟨B y.2, 0, none⟩) from rfl]
  obtain ⟨k, hk⟩ : ∃ k, y.2 = k := ⟨_, rfl⟩
  rw [hk] at HY KX ⊢
  clear hy hi hk
  go_wp2_with fail
  clear hnil
  go_loopw [7, 8] (fun u a wr => ∃ (j : Nat) (l : List (List UInt8)), a = .int .i64 (j : Int) ∧ j ≤ n ∧ l = (S.ls.take j).flatMap (nmF k) ∧ wr.ownsRow w1.heap.size 9 1 u l.length (strs l) ∧ Below w1.heap.size w1 wr) (fun _ a _ => n - (intOf a).toNat)
  case atStart => exact ⟨0, [], rfl, Nat.zero_le _, rfl, World.ownsRow_nil _ _ _ _, Below.refl _ _⟩
  case round =>
    obtain ⟨j, l, rfl, hj, hlq, hO, hB⟩ := hrel
    have HLQ := Lib.hid hlq
    have HO := Lib.hid hO
    have HB := Lib.hid (B1.out.trans (hB.mono B1.out.size))
    have HB1 := Lib.hid hB
    have hfl := flat_len _ (nmF_len k) (S.ls.take j)
    have htl : (S.ls.take j).length ≤ j := List.length_take_le _ _
    have HFL := Lib.hid (show l.length ≤ 1000000 by rw [hlq]; omega)
    clear hfl htl hlq
    obtain ⟨A1, c1, rfl, hc1, hc2, hs1⟩ := own_strs hO (by have := HFL.out; omega)
    obtain ⟨x0, x1, hx⟩ := HC.out wr HB.out
    have hyk := HY.out wr hB
    have HX := Lib.hid hx
    clear hO hB hx
    rcases Nat.lt_or_ge j n with h | h
    · obtain ⟨z, hz⟩ : ∃ z, S.ls[j]? = some z := ⟨_, List.getElem?_eq_getElem (by rw [HN.out]; exact h)⟩
      obtain ⟨z0, z1, zb⟩ := HX.out j z hz
      have zn := zb.cell 1
      simp only [encH, List.getElem?_cons_zero, List.getElem?_cons_succ] at zn
      have HTK := Lib.hid (take_flat (nmF k) hz)
      have HNM := Lib.hid (show nmF k z = if z.2 = k then [z.1] else [] from rfl)
      have hi2 : (j : Int) < (n : Int) := by omega
      have HJ := Lib.hid h
      unfold ptrB at z1
      have bx : ∀ a u, wr.cell? a = some u → ∀ w', Below wr.drew.heap.size wr.drew w' → w'.cell? a = some u := fun a u h w' hb => cell_below (w := wr.drew) h hb
      have BX := Lib.hid bx
      clear bx hz h hj zb
      go_wp2_with fail
      refine wp_region_held_drew (S := fun w' => Below (wr.drew).heap.size (wr.drew) w') (by kernel_rfl) (Below.refl _ _) (fun hHeld => ?_)
      refine wpAnyH_take (i := 0) (oi := ?oi1) (v := ?v1) ?hi1 ?hs1 ?hf1 ?hr1 ?hQ1 (Or.inl ⟨?hg1, ?hy1⟩) hHeld ?rest1
      case hi1 => simp only [List.getElem?_toArray, List.getElem?_cons_succ, List.getElem?_cons_zero]; rfl
      case hs1 => kernel_rfl
      case hf1 => kernel_rfl
      case hr1 => kernel_rfl
      case hg1 => rfl
      case hy1 => (intro w hSw; first | (go_simp; done) | (go_simp; with_reducible rfl))
      case hQ1 => exact fun _ _ _ h => h
      try simp only [Act.put, List.setIfInBounds_toArray, List.set_cons_zero, List.set_cons_succ]
      refine wpAnyH_take (i := 1) (oi := ?oi2) (v := ?v2) ?hi2 ?hs2 ?hf2 ?hr2 ?hQ2 (Or.inl ⟨?hg2, ?hy2⟩) hHeld ?rest2
      case hi2 => simp only [List.getElem?_toArray, List.getElem?_cons_succ, List.getElem?_cons_zero]; rfl
      case hs2 => kernel_rfl
      case hf2 => kernel_rfl
      case hr2 => kernel_rfl
      case hg2 => rfl
      case hy2 => (intro w hSw; first | (go_simp; done) | (go_simp; with_reducible rfl))
      case hQ2 => exact fun _ _ _ h => h
      try simp only [Act.put, List.setIfInBounds_toArray, List.set_cons_zero, List.set_cons_succ]
      refine wpAnyH_take (i := 2) (oi := ?oi3) (v := ?v3) ?hi3 ?hs3 ?hf3 ?hr3 ?hQ3 (Or.inl ⟨?hg3, ?hy3⟩) hHeld ?rest3
      case hi3 => simp only [List.getElem?_toArray, List.getElem?_cons_succ, List.getElem?_cons_zero]; rfl
      case hs3 => kernel_rfl
      case hf3 => kernel_rfl
      case hr3 => kernel_rfl
      case hg3 => rfl
      case hy3 => (intro w hSw; first | (go_simp; done) | (go_simp; with_reducible rfl))
      case hQ3 => exact fun _ _ _ h => h
      try simp only [Act.put, List.setIfInBounds_toArray, List.set_cons_zero, List.set_cons_succ]
      refine wpAnyH_take (i := 3) (oi := ?oi4) (v := ?v4) ?hi4 ?hs4 ?hf4 ?hr4 ?hQ4 (Or.inl ⟨?hg4, ?hy4⟩) hHeld ?rest4
      case hi4 => simp only [List.getElem?_toArray, List.getElem?_cons_succ, List.getElem?_cons_zero]; rfl
      case hs4 => kernel_rfl
      case hf4 => kernel_rfl
      case hr4 => kernel_rfl
      case hg4 => rfl
      case hy4 => (intro w hSw; have q0 := BX.out _ _ x0 _ hSw; first | (go_simp; done) | (go_simp; with_reducible rfl))
      case hQ4 => exact fun _ _ _ h => h
      try simp only [Act.put, List.setIfInBounds_toArray, List.set_cons_zero, List.set_cons_succ]
      refine wpAnyH_take (i := 4) (oi := ?oi5) (v := ?v5) ?hi5 ?hs5 ?hf5 ?hr5 ?hQ5 (Or.inl ⟨?hg5, ?hy5⟩) hHeld ?rest5
      case hi5 => simp only [List.getElem?_toArray, List.getElem?_cons_succ, List.getElem?_cons_zero]; rfl
      case hs5 => kernel_rfl
      case hf5 => kernel_rfl
      case hr5 => kernel_rfl
      case hg5 => rfl
      case hy5 => (intro w hSw; first | (go_simp; done) | (go_simp; with_reducible rfl))
      case hQ5 => exact fun _ _ _ h => h
      try simp only [Act.put, List.setIfInBounds_toArray, List.set_cons_zero, List.set_cons_succ]
      refine wpAnyH_take (i := 5) (oi := ?oi6) (v := ?v6) ?hi6 ?hs6 ?hf6 ?hr6 ?hQ6 (Or.inl ⟨?hg6, ?hy6⟩) hHeld ?rest6
      case hi6 => simp only [List.getElem?_toArray, List.getElem?_cons_succ, List.getElem?_cons_zero]; rfl
      case hs6 => kernel_rfl
      case hf6 => kernel_rfl
      case hr6 => kernel_rfl
      case hg6 => rfl
      case hy6 => (intro w hSw; first | (go_simp; done) | (go_simp; with_reducible rfl))
      case hQ6 => exact fun _ _ _ h => h
      try simp only [Act.put, List.setIfInBounds_toArray, List.set_cons_zero, List.set_cons_succ]
      refine wpAnyH_take (i := 6) (oi := ?oi7) (v := ?v7) ?hi7 ?hs7 ?hf7 ?hr7 ?hQ7 (Or.inl ⟨?hg7, ?hy7⟩) hHeld ?rest7
      case hi7 => simp only [List.getElem?_toArray, List.getElem?_cons_succ, List.getElem?_cons_zero]; rfl
      case hs7 => kernel_rfl
      case hf7 => kernel_rfl
      case hr7 => kernel_rfl
      case hg7 => rfl
      case hy7 => (intro w hSw; first | (go_simp; done) | (go_simp; with_reducible rfl))
      case hQ7 => exact fun _ _ _ h => h
      try simp only [Act.put, List.setIfInBounds_toArray, List.set_cons_zero, List.set_cons_succ]
      refine wpAnyH_take (i := 7) (oi := ?oi8) (v := ?v8) ?hi8 ?hs8 ?hf8 ?hr8 ?hQ8 (Or.inl ⟨?hg8, ?hy8⟩) hHeld ?rest8
      case hi8 => simp only [List.getElem?_toArray, List.getElem?_cons_succ, List.getElem?_cons_zero]; rfl
      case hs8 => kernel_rfl
      case hf8 => kernel_rfl
      case hr8 => kernel_rfl
      case hg8 => rfl
      case hy8 => (intro w hSw; have q0 := BX.out _ _ z1 _ hSw; first | (go_simp; done) | (go_simp; with_reducible rfl))
      case hQ8 => exact fun _ _ _ h => h
      try simp only [Act.put, List.setIfInBounds_toArray, List.set_cons_zero, List.set_cons_succ]
      refine wpAnyH_take (i := 8) (oi := ?oi9) (v := ?v9) ?hi9 ?hs9 ?hf9 ?hr9 ?hQ9 (Or.inl ⟨?hg9, ?hy9⟩) hHeld ?rest9
      case hi9 => simp only [List.getElem?_toArray, List.getElem?_cons_succ, List.getElem?_cons_zero]; rfl
      case hs9 => kernel_rfl
      case hf9 => kernel_rfl
      case hr9 => kernel_rfl
      case hg9 => rfl
      case hy9 => (intro w hSw; first | (go_simp; done) | (go_simp; with_reducible rfl))
      case hQ9 => exact fun _ _ _ h => h
      try simp only [Act.put, List.setIfInBounds_toArray, List.set_cons_zero, List.set_cons_succ]
      refine wpAnyH_take (i := 9) (oi := ?oi10) (v := ?v10) ?hi10 ?hs10 ?hf10 ?hr10 ?hQ10 (Or.inl ⟨?hg10, ?hy10⟩) hHeld ?rest10
      case hi10 => simp only [List.getElem?_toArray, List.getElem?_cons_succ, List.getElem?_cons_zero]; rfl
      case hs10 => kernel_rfl
      case hf10 => kernel_rfl
      case hr10 => kernel_rfl
      case hg10 => rfl
      case hy10 => (intro w hSw; first | (go_simp; done) | (go_simp; with_reducible rfl))
      case hQ10 => exact fun _ _ _ h => h
      try simp only [Act.put, List.setIfInBounds_toArray, List.set_cons_zero, List.set_cons_succ]
      refine wpAnyH_take (i := 10) (oi := ?oi11) (v := ?v11) ?hi11 ?hs11 ?hf11 ?hr11 ?hQ11 (Or.inl ⟨?hg11, ?hy11⟩) hHeld ?rest11
      case hi11 => simp only [List.getElem?_toArray, List.getElem?_cons_succ, List.getElem?_cons_zero]; rfl
      case hs11 => kernel_rfl
      case hf11 => kernel_rfl
      case hr11 => kernel_rfl
      case hg11 => rfl
      case hy11 => (intro w hSw; have q0 := BX.out _ _ zn _ hSw; first | (go_simp; done) | (go_simp; with_reducible rfl))
      case hQ11 => exact fun _ _ _ h => h
      try simp only [Act.put, List.setIfInBounds_toArray, List.set_cons_zero, List.set_cons_succ]
      refine wpAnyH_take (i := 11) (oi := ?oi12) (v := ?v12) ?hi12 ?hs12 ?hf12 ?hr12 ?hQ12 (Or.inl ⟨?hg12, ?hy12⟩) hHeld ?rest12
      case hi12 => simp only [List.getElem?_toArray, List.getElem?_cons_succ, List.getElem?_cons_zero]; rfl
      case hs12 => kernel_rfl
      case hf12 => kernel_rfl
      case hr12 => kernel_rfl
      case hg12 => rfl
      case hy12 => (intro w hSw; first | (go_simp; done) | (go_simp; with_reducible rfl))
      case hQ12 => exact fun _ _ _ h => h
      try simp only [Act.put, List.setIfInBounds_toArray, List.set_cons_zero, List.set_cons_succ]
      refine wpAnyH_take (i := 12) (oi := ?oi13) (v := ?v13) ?hi13 ?hs13 ?hf13 ?hr13 ?hQ13 (Or.inl ⟨?hg13, ?hy13⟩) hHeld ?rest13
      case hi13 => simp only [List.getElem?_toArray, List.getElem?_cons_succ, List.getElem?_cons_zero]; rfl
      case hs13 => kernel_rfl
      case hf13 => kernel_rfl
      case hr13 => kernel_rfl
      case hg13 => rfl
      case hy13 => (intro w hSw; first | (go_simp; done) | (go_simp; with_reducible rfl))
      case hQ13 => exact fun _ _ _ h => h
      try simp only [Act.put, List.setIfInBounds_toArray, List.set_cons_zero, List.set_cons_succ]
      refine wpAnyH_take (i := 13) (oi := ?oi14) (v := ?v14) ?hi14 ?hs14 ?hf14 ?hr14 ?hQ14 (Or.inl ⟨?hg14, ?hy14⟩) hHeld ?rest14
      case hi14 => simp only [List.getElem?_toArray, List.getElem?_cons_succ, List.getElem?_cons_zero]; rfl
      case hs14 => kernel_rfl
      case hf14 => kernel_rfl
      case hr14 => kernel_rfl
      case hg14 => rfl
      case hy14 => (intro w hSw; first | (go_simp; done) | (go_simp; with_reducible rfl))
      case hQ14 => exact fun _ _ _ h => h
      try simp only [Act.put, List.setIfInBounds_toArray, List.set_cons_zero, List.set_cons_succ]
      refine wpAnyH_take (i := 14) (oi := ?oi15) (v := ?v15) ?hi15 ?hs15 ?hf15 ?hr15 ?hQ15 (Or.inl ⟨?hg15, ?hy15⟩) hHeld ?rest15
      case hi15 => simp only [List.getElem?_toArray, List.getElem?_cons_succ, List.getElem?_cons_zero]; rfl
      case hs15 => kernel_rfl
      case hf15 => kernel_rfl
      case hr15 => kernel_rfl
      case hg15 => rfl
      case hy15 => (intro w hSw; have q0 := BX.out _ _ hyk _ hSw; first | (go_simp; done) | (go_simp; with_reducible rfl))
      case hQ15 => exact fun _ _ _ h => h
      try simp only [Act.put, List.setIfInBounds_toArray, List.set_cons_zero, List.set_cons_succ]
      refine wpAnyH_take (i := 15) (oi := ?oi16) (v := ?v16) ?hi16 ?hs16 ?hf16 ?hr16 ?hQ16 (Or.inl ⟨?hg16, ?hy16⟩) hHeld ?rest16
      case hi16 => simp only [List.getElem?_toArray, List.getElem?_cons_succ, List.getElem?_cons_zero]; rfl
      case hs16 => kernel_rfl
      case hf16 => kernel_rfl
      case hr16 => kernel_rfl
      case hg16 => rfl
      case hy16 => (intro w hSw; first | (go_simp; done) | (go_simp; with_reducible rfl))
      case hQ16 => exact fun _ _ _ h => h
      try simp only [Act.put, List.setIfInBounds_toArray, List.set_cons_zero, List.set_cons_succ]
      refine wpAnyH_done (by kernel_rfl) ?_ _
      clear hHeld
      have B3 := Lib.hid (HB.out.trans (((Below.refl wr.heap.size wr).drew).mono HB.out.size))
      have B31 := Lib.hid (HB1.out.trans (((Below.refl wr.heap.size wr).drew).mono HB1.out.size))
      have O3 := Lib.hid (row_heap HO.out (fun b hb => (show wr.drew.heap[b]? = wr.heap[b]? from rfl)))
      have wj : IntKind.i64.wrap ((j : Int) + 1) = (j : Int) + 1 := by rw [IntKind.wrap_i64]; have := HJ.out; omega
      by_cases e : z.2 = k
      · have e1 : (z.2 == k) = true := by simpa using e
        have KF := Lib.hid (show nmF k z = [z.1] by rw [HNM.out, if_pos e])
        clear e
        have x0' : wr.drew.cell? ⟨t, 0, none⟩ = _ := x0
        have z0' : wr.drew.cell? ⟨g, j * 2, none⟩ = _ := z0
        obtain ⟨A4, m4, c4, w4, hap, hO4, hB4⟩ := push_str z.1 O3.out B31.out HFL.out
        have O4 := Lib.hid hO4
        have HL4 := Lib.hid (show l ++ [z.1] = (S.ls.take (j + 1)).flatMap (nmF k) by rw [HTK.out, KF.out, HLQ.out])
        have B4 := Lib.hid hB4
        clear hO4 hB4 KF
        go_wp2_with (at_builtin; refine halt_in ?_)
        refine Halted.out (wpList_append_run rfl _ _ _ _ rfl rfl rfl hap ?_)
        clear hap z0 z1 zn x0 x1 x0' z0' hyk e1
        go_wp2_with fail
        go_roundw
        case rel => exact ⟨j + 1, _, by go_num, by have := HJ.out; omega, HL4.out, O4.out, B4.out⟩
        case measure => have := HJ.out; simp [intOf] <;> omega
      · have e1 : (z.2 == k) = false := by simpa using e
        have KF := Lib.hid (show nmF k z = [] by rw [HNM.out, if_neg e])
        have HL4 := Lib.hid (show l = (S.ls.take (j + 1)).flatMap (nmF k) by rw [HTK.out, KF.out, List.append_nil, HLQ.out])
        clear e z0 z1 zn x0 x1 hyk
        go_wp2_with fail
        go_roundw
        case rel => exact ⟨j + 1, l, by go_num, by have := HJ.out; omega, HL4.out, O3.out, B31.out⟩
        case measure => have := HJ.out; simp [intOf] <;> omega
    · have hin : ¬ ((j : Int) < (n : Int)) := by omega
      have HE := Lib.hid (show S.ls.flatMap (nmF k) = l by rw [HLQ.out, List.take_of_length_le (by rw [HN.out]; exact h)])
      have HMM := Lib.hid (show ∀ x ∈ S.ls.flatMap (nmF k), x.length ≤ 2097152 from fun x hx => by
        obtain ⟨z, hz, hxz⟩ := List.mem_flatMap.1 hx
        have := HRI.out z hz
        unfold nmF at hxz
        split at hxz
        · rw [List.mem_singleton] at hxz; rw [hxz]; exact this
        · cases hxz)
      rw [HE.out] at HMM
      have HS := Lib.hid (HSRT.out _ A1 c1 _ wr hc1 hs1 HMM.out HFL.out)
      clear h hj hs1 hc1 hyk
      go_wp2_with fail
      refine HS.out.mono ?_
      rintro e w2 ⟨⟨v2, L2, rfl, hO2, hP2, hS2⟩, hb2⟩
      have K := Lib.hid (show SortOf w2 w.heap.size l v2 ∧ Below w.heap.size w w2 from
        ⟨⟨L2, ⟨hO2.1, hO2.2.imp id (fun ⟨g, cap, cur, a, b, r⟩ => ⟨g, cap, cur, a, Nat.le_trans HB.out.size b, r⟩)⟩, hP2, hS2⟩, HB.out.trans (hb2.mono HB.out.size)⟩)
      obtain ⟨A2, c2, rfl, _⟩ := own_strs hO2 (by have := HFL.out; omega)
      clear hO2 hP2 hS2 hb2
      go_wp2_with fail
      go_ret
      rw [KX.out, HE.out]
      exact ⟨⟨_, rfl, K.out.1⟩, K.out.2⟩
end Go.Proofs.YtlbbehfbjbbckaaGreatDoor

/-! The document's tree: Remove. -/
set_option linter.unusedVariables false
set_option linter.unusedSimpArgs false
namespace Go.Proofs.YtlbbehfbjbbckaaGreatDoor
open Go.RowKit
attribute [local go_sem] str_toList

theorem any_flat {α β : Type} (f : α → List β) (b : α → Bool) (h : ∀ x, b x = true ↔ f x ≠ []) : ∀ l : List α, l.any b = true ↔ l.flatMap f ≠ []
  | [] => by simp
  | x :: l => by
    rw [List.any_cons, List.flatMap_cons, Bool.or_eq_true, any_flat f b h l, h x]
    simp only [ne_eq, List.append_eq_nil_iff]
    constructor
    · rintro (h | h) ⟨h1, h2⟩
      · exact h h1
      · exact h h2
    · intro h
      by_cases e : f x = []
      · exact .inr (fun g => h ⟨e, g⟩)
      · exact .inl e
theorem hasIn_inL {S : St} (ho : OkS S) (ht : TopS S) (p : List UInt8) : S.hasIn p = decide (0 < (inL S p).length) := by
  obtain ⟨r, hr⟩ := ht.cons
  have hn := ho.nodup
  rw [hr] at hn
  obtain ⟨h1, h2⟩ := List.pairwise_cons.1 hn
  have e : S.hasIn p = r.any (fun x => parentB x.1 == p) := by
    unfold St.hasIn
    rw [hr, List.any_cons]
    have : (([] : List UInt8) != []) = false := rfl
    simp only [this, Bool.false_and, Bool.false_or]
    have : ∀ l : List (List UInt8 × Int), (∀ x ∈ l, x.1 ≠ []) → l.any (fun x => x.1 != [] && parentB x.1 == p) = l.any (fun x => parentB x.1 == p) := fun l hl => by
      induction l with
      | nil => rfl
      | cons x l ih =>
        rw [List.any_cons, List.any_cons, ih (fun y hy => hl y (List.mem_cons_of_mem _ hy))]
        have h0 : (x.1 != []) = true := by simpa using hl x (List.mem_cons_self ..)
        rw [h0, Bool.true_and]
    exact this r (fun x hx => fun e => h1 x hx e.symm)
  rw [e]
  have h3 := any_flat (inF p) (fun x => parentB x.1 == p) (fun x => by unfold inF; by_cases h : parentB x.1 = p <;> simp [h]) r
  have h4 : inL S p = r.flatMap (inF p) := by unfold inL; rw [hr]; rfl
  rw [h4]
  cases hq : r.any (fun x => parentB x.1 == p) with
  | true =>
    rw [hq] at h3
    have := h3.1 rfl
    rw [decide_eq_true (List.length_pos_iff.2 this)]
  | false =>
    rw [decide_eq_false]
    intro h
    have := h3.2 (List.length_pos_iff.1 h)
    rw [hq] at this; cases this
theorem gone_post {w w1 w' : World} {t : Nat} {v v' : Value} {S : St} {B : Int → Nat} {D : Int → Dt} {p : List UInt8} {O : Nat → Prop} (ho : OkS S) (ht : TopS S) (hO : ∀ k, k = t ∨ heldD v S B D k → O k) (hp : p ≠ []) (hin : S.hasIn p = false) (h' : DocAt w' t v' { S with ls := S.ls.filter (fun y => y.1 != p) } B D)
    (hw : Only (fun k => k = t) w1 w') (hv' : ∀ k, v'.ownBlock = some k → v.ownBlock = some k ∨ w1.heap.size ≤ k) (hb : Below w.heap.size w w1) : DocPost w w' t { S with ls := S.ls.filter (fun y => y.1 != p) } O :=
  list_post hO h' (ho.gone hp hin) (ht.gone hp) (fun y hy => ⟨y, (List.mem_filter.1 hy).1, rfl⟩) (hw.mono (fun k _ h => .inl h)) hv' hb
set_option maxRecDepth 100000 in
set_option maxHeartbeats 8000000 in
theorem RemoveD_any (t : Nat) (S : St) (O : Nat → Prop) (p : ByteArray) (w : World) (h : DocS w t S O) (hp : p.size ≤ 2097152) (hl : S.ls.length ≤ 1000000) :
    Calls Tryz.prog 63 #[.pointer (some ⟨t, 0, none⟩), .string p] w fun e w' => e = .returned (.int .i64 (S.remove p.data.toList).1) ∧ DocPost w w' t (S.remove p.data.toList).2 O := by
  obtain ⟨v, B, D, hA, ho, ht, hO⟩ := h
  have HDS := Lib.hid (show ∀ w', Below w.heap.size w w' → DocPost w w' t S O from fun w' hb => doc_same ⟨v, B, D, hA, ho, ht, hO⟩ hb)
  have HTH := Lib.hid (fun w (h : DocAt w t v S B D) => There_any t v S B D p w h ho ht hl hp)
  have HINN := Lib.hid (fun w (h : DocAt w t v S B D) => In_any t v S B D p w h ho ht hl)
  have HGO := Lib.hid (fun w (h : DocAt w t v S B D) hne => gone_any t v S B D p w h ho ht hl hne)
  have HPO := Lib.hid (fun w1 w' v' hne hin => gone_post (w := w) (w1 := w1) (w' := w') (v := v) (v' := v') (B := B) (D := D) (p := p.data.toList) (O := O) ho ht hO hne hin)
  have HMEM := Lib.hid (fun i (h : thereS (S.look p.data.toList) = (some i, 0)) => (there_at ho h).1)
  have HIFF := Lib.hid (fun i (h : S.at p.data.toList = some i) => (ho.at_iff _ _).1 h)
  have HLEAF := Lib.hid (fun i (h : S.at p.data.toList = some i) (hk : (S.th i).kind ≠ 2) => hasIn_leaf ho h hk)
  have HERR := Lib.hid (show (thereS (S.look p.data.toList)).2 = 0 → _ from thereS_err)
  have HHI := Lib.hid (hasIn_inL ho ht p.data.toList)
  have HLI := Lib.hid (show (inL S p.data.toList).length ≤ 1000000 from Nat.le_trans (flat_len _ (inF_len _) _) (by rw [List.length_drop]; omega))
  have HNR := Lib.hid (show rightB p.data.toList = false → thereS (S.look p.data.toList) = (none, 9) from fun h => by unfold St.look; rw [if_pos h]; rfl)
  have HT := Lib.hid hA
  obtain ⟨X, hX⟩ : ∃ X, S.remove p.data.toList = X := ⟨_, rfl⟩
  have HX : Hid ((if rightB p.data.toList = false then ((9 : Int), S) else if p.data.toList = [] then (2, S) else removeR S p.data.toList (thereS (S.look p.data.toList))) = X) := Lib.hid hX
  rw [hX]
  clear hX hA ho ht hO hl
  by_cases hz : p.size = 0
  · obtain rfl : p = ⟨#[]⟩ := ByteArray.ext (Array.size_eq_zero_iff.1 hz)
    have K := Lib.hid (show X = (2, S) from HX.out.symm)
    clear hz HX HNR
    go_enter Tryz.func63, Tryz.ntmps63
    go_wp2_with fail
    go_ret
    rw [K.out]
    exact ⟨rfl, HDS.out _ (Below.refl _ _)⟩
  have hnil := nil_toList p hz
  have hne : p.data.toList ≠ [] := fun e => hz (by have : p.data.toList.length = 0 := by rw [e]; rfl
                                                   rwa [Array.length_toList] at this)
  have HNE := Lib.hid hne
  have HX1 := Lib.hid (show (if rightB p.data.toList = false then ((9 : Int), S) else removeR S p.data.toList (thereS (S.look p.data.toList))) = X by rw [← HX.out, if_neg hne])
  clear hz hne HX
  generalize thereS (S.look p.data.toList) = l at *
  go_enter Tryz.func63, Tryz.ntmps63
  go_wp2_with fail
  refine (HTH.out w HT.out).mono ?_
  rintro e w1 ⟨rfl, hb1⟩
  have HB1 := Lib.hid hb1
  have T1 := Lib.hid (HT.out.below hb1)
  clear hb1 HTH HT hnil
  obtain ⟨ro, re⟩ := l
  rcases (Classical.em (re = 0)).symm with h0 | h0
  · have K := Lib.hid (show X = (re, S) by
      rw [← HX1.out]
      cases hr : rightB p.data.toList with
      | false =>
        have := HNR.out hr
        rw [if_pos rfl, (Prod.mk.inj this).2]
      | true =>
        rw [if_neg (by simp)]
        cases ro with
        | none => rfl
        | some i => exact if_pos h0)
    have e1 : (re != 0) = true := by simpa using h0
    clear h0 HX1 HNR
    go_wp2_with fail
    go_ret
    rw [K.out]
    exact ⟨rfl, HDS.out _ HB1.out⟩
  subst h0
  obtain ⟨i, hi⟩ := HERR.out (by first | rfl | trivial)
  obtain rfl : ro = some i := (Prod.mk.inj hi).1
  have HR := Lib.hid (show ¬ rightB p.data.toList = false from fun h => by have := HNR.out h; cases this)
  have HX2 := Lib.hid (show (if S.hasIn p.data.toList = true then ((14 : Int), S) else (0, { S with ls := S.ls.filter (fun y => y.1 != p.data.toList) })) = X by rw [← HX1.out, if_neg HR.out]; rfl)
  have hat := HMEM.out i (by first | rfl | trivial)
  have z0 := (T1.out.node _ (HIFF.out i hat)).cell 0
  simp only [encH, List.getElem?_cons_zero] at z0
  have HAT := Lib.hid hat
  rw [show ptrM B (some i) = .pointer (some ⟨B i, 0, none⟩) from rfl]
  clear hat hi HX1 HNR HERR HMEM HIFF
  have fin : ∀ w2, Hid (Below w.heap.size w w2) → S.hasIn p.data.toList = false → Hid (DocAt w2 t v S B D) → Hid (Calls Tryz.prog 117 #[.pointer (some ⟨t, 0, none⟩), .string p] w2 fun e w' => e = .returned (.tuple #[]) ∧ DocPost w w' t { S with ls := S.ls.filter (fun y => y.1 != p.data.toList) } O) := fun w2 hb hin hd => Lib.hid ((HGO.out w2 hd.out HNE.out).mono (by
    rintro e w' ⟨rfl, v', h1, h2, h3⟩
    exact ⟨rfl, HPO.out w2 w' v' HNE.out hin h1 h2 h3 hb.out⟩))
  have FIN := Lib.hid fin
  clear fin
  rcases Classical.em ((S.th i).kind = 2) with h2 | h2
  · have e1 : ((S.th i).kind == 2) = true := by simpa using h2
    clear h2
    go_wp2_with fail
    refine (HINN.out w1 T1.out).mono ?_
    rintro e w2 ⟨⟨v2, rfl, L2, hO2, hP2, hS2⟩, hb2⟩
    obtain ⟨A2, c2, rfl, _⟩ := own_strs hO2 (by have := HLI.out; omega)
    have HB2 := Lib.hid (HB1.out.trans (hb2.mono HB1.out.size))
    have T2 := Lib.hid (T1.out.below hb2)
    clear hO2 hP2 hS2 hb2 T1 HB1 z0
    rcases Nat.eq_zero_or_pos (inL S p.data.toList).length with hq | hq
    · have K := Lib.hid (show X = (0, { S with ls := S.ls.filter (fun y => y.1 != p.data.toList) }) by rw [← HX2.out, HHI.out, decide_eq_false (by omega)]; rfl)
      have FF := FIN.out w2 HB2 (by rw [HHI.out, decide_eq_false (by omega)]) T2
      have q1 : ¬ (0 : Int) < ((inL S p.data.toList).length : Int) := by omega
      have q2 : decide ((0 : Int) < ((inL S p.data.toList).length : Int)) = false := decide_eq_false q1
      generalize (inL S p.data.toList).length = nn at *
      subst hq
      clear HX2 HHI
      go_wp2_with fail
      refine FF.out.mono ?_
      rintro e w3 ⟨rfl, hd3⟩
      have D3 := Lib.hid hd3
      clear hd3
      go_wp2_with fail
      go_ret
      rw [K.out]
      exact ⟨rfl, D3.out⟩
    · have K := Lib.hid (show X = (14, S) by rw [← HX2.out, HHI.out, decide_eq_true hq]; rfl)
      have q1 : (0 : Int) < ((inL S p.data.toList).length : Int) := by omega
      have q2 : decide ((0 : Int) < ((inL S p.data.toList).length : Int)) = true := decide_eq_true q1
      generalize (inL S p.data.toList).length = nn at *
      clear HX2 HHI
      go_wp2_with fail
      go_ret
      rw [K.out]
      exact ⟨rfl, HDS.out _ HB2.out⟩
  · have e1 : ((S.th i).kind == 2) = false := by simpa using h2
    have HLF := Lib.hid (HLEAF.out i HAT.out h2)
    have K := Lib.hid (show X = (0, { S with ls := S.ls.filter (fun y => y.1 != p.data.toList) }) by rw [← HX2.out, HLF.out]; rfl)
    have FF := FIN.out w1 HB1 HLF.out T1
    clear h2 HX2 HHI
    go_wp2_with fail
    refine FF.out.mono ?_
    rintro e w3 ⟨rfl, hd3⟩
    have D3 := Lib.hid hd3
    clear hd3
    go_wp2_with fail
    go_ret
    rw [K.out]
    exact ⟨rfl, D3.out⟩
end Go.Proofs.YtlbbehfbjbbckaaGreatDoor

/-! The document's tree: names that move. -/
set_option linter.unusedVariables false
set_option linter.unusedSimpArgs false
namespace Go.Proofs.YtlbbehfbjbbckaaGreatDoor
open Go.RowKit
attribute [local go_sem] str_toList

theorem refRight_str (q : List UInt8) (w : World) (hq : q.length ≤ 2097152) : Calls Tryz.prog 44 #[.string (str q)] w fun e w' => e = .returned (.bool (rightB q)) ∧ Below w.heap.size w w' := by
  have := refRight_any (str q) _ w rfl (by rw [str_size]; exact hq)
  rwa [str_data] at this
def mvF (o p : List UInt8) (y : List UInt8 × Int) : List UInt8 × Int := (moveP o p y.1, y.2)
theorem own_slice {w : World} {base : Nat} {e : TypeId} {sz : Nat} {v : Value} {n : Nat} {xs : List Value} (h : w.ownsRow base e sz v n xs) : ∃ A m c, v = .slice A m c := by
  rcases h.2 with ⟨hv, _⟩ | ⟨g, cap, cur, hv, _⟩
  · exact ⟨_, _, _, hv⟩
  · exact ⟨_, _, _, hv⟩
/-- A name more, behind a row of names. -/
theorem push_name {w0 wr : World} {v : Value} {B : Int → Nat} {l : List (List UInt8 × Int)} (x : List UInt8 × Int) (hr : wr.ownsRow w0.heap.size 129 2 v l.length (encDs B l)) (hb : Below w0.heap.size w0 wr) (hl : l.length ≤ 1000000) :
    ∃ A m c w', (Builtin.append_ #[130, 130] 130 #[v, .slice (some ⟨wr.heap.size, 0, none⟩) 1 1]).run Tryz.prog (wr.alloc (.cells #[.string (str x.1), ptrB (B x.2)] 129)) = .ok (.slice A m c) w' ∧ w'.ownsRow w0.heap.size 129 2 (.slice A m c) (l ++ [x]).length (encDs B (l ++ [x])) ∧ Below w0.heap.size w0 w' := by
  obtain ⟨i0, hi0, hz0, hz1, hz2⟩ := info_parts infoN
  have hb4 := (Below.refl wr.heap.size wr).alloc (Nat.le_refl _) (.cells #[.string (str x.1), ptrB (B x.2)] 129)
  have hsl4 : Sl 2 (wr.alloc (.cells #[.string (str x.1), ptrB (B x.2)] 129)) (some ⟨wr.heap.size, 0, none⟩) 1 (encDs B [x]) := (Blk.new wr 129 [.string (str x.1), ptrB (B x.2)]).sl (o := 0) (n := 1) (sz := 2) (ds := [.string (str x.1), ptrB (B x.2)]) rfl rfl (by omega)
  have hr4 := row_heap hr (fun b hb => hb4.block b (row_lt hr hb).2)
  have hz4 : (wr.alloc (.cells #[.string (str x.1), ptrB (B x.2)] 129)).heap.size = wr.heap.size + 1 := World.size_alloc _ _
  have hsz := hb.size
  obtain ⟨v4, w4, hap4, hown4, hg4⟩ := run_append_sl (P := Tryz.prog) (w := wr.alloc (.cells #[.string (str x.1), ptrB (B x.2)] 129)) w0.heap.size 130 130 129 i0 _ 2 24 Tryz.underlying130 hi0 hz0 hz1 hz2 rfl (by decide) hr4 (c := 1) hsl4 (one_encDs B [x]) (by omega) (by omega) (by omega)
  rw [← encDs_app] at hown4
  have O4 : w4.ownsRow w0.heap.size 129 2 v4 (l ++ [x]).length (encDs B (l ++ [x])) := by rw [List.length_append]; exact hown4
  obtain ⟨A4, m4, c4, rfl⟩ : ∃ A m c, v4 = .slice A m c := by
    rcases hown4.2 with ⟨hv, _⟩ | ⟨g, cap, cur, hv, _⟩
    · exact ⟨_, _, _, hv⟩
    · exact ⟨_, _, _, hv⟩
  exact ⟨A4, m4, c4, w4, hap4, O4, (hb.trans (hb4.mono hsz)).grown hg4 (by omega) (fun k hk => (row_lt hr4 hk).1)⟩
theorem map_snoc {α β : Type} (f : α → β) {l : List α} {i : Nat} {x : α} (h : l[i]? = some x) : (l.take (i + 1)).map f = (l.take i).map f ++ [f x] := by
  obtain ⟨hi, he⟩ := List.getElem?_eq_some_iff.1 h
  rw [List.take_succ_eq_append_getElem hi, he, List.map_append]; rfl
/-- What moved answers: the names, or that one of them would be none. -/
def MvPost (al : Bool) (w' : World) (base : Nat) (B : Int → Nat) (ls : List (List UInt8 × Int)) (e : Ending) : Prop :=
  if al = true then ∃ u, e = .returned (.tuple #[u, .bool true]) ∧ w'.ownsRow base 129 2 u ls.length (encDs B ls) else e = .returned (.tuple #[.slice none 0 0, .bool false])
set_option maxRecDepth 100000 in
set_option maxHeartbeats 16000000 in
theorem moved_any (t : Nat) (v : Value) (S : St) (B : Int → Nat) (D : Int → Dt) (o p : ByteArray) (w : World) (h : DocAt w t v S B D) (ho : OkS S) (ht : TopS S) (hl : S.ls.length ≤ 1000000) (hos : o.size ≤ 100000) (hps : p.size ≤ 100000) (ho0 : o.data.toList ≠ []) (hp0 : p.data.toList ≠ []) :
    Calls Tryz.prog 135 #[.pointer (some ⟨t, 0, none⟩), .string o, .string p] w fun e w' => MvPost (S.ls.all fun y => rightB (moveP o.data.toList p.data.toList y.1)) w' w.heap.size B (S.ls.map (mvF o.data.toList p.data.toList)) e ∧ Below w.heap.size w w' := by
  obtain ⟨g, cap, rfl, hcap, hcm, hcell⟩ := h.list ht
  have HC := Lib.hid hcell
  have HRI := Lib.hid (fun (i : Nat) (x : List UInt8 × Int) (h : S.ls[i]? = some x) => (show x.1.length ≤ 200 from rightB_len (ho.right x (List.mem_of_getElem? h))))
  have HUN := Lib.hid (fun (q : List UInt8) w (hq : q.length ≤ 2097152) => refUnder_any (str q) o (splitB q) (splitB o.data.toList) w (by rw [str_data]) rfl (by rw [str_size]; exact hq) (by omega))
  have HRT := Lib.hid (fun (q : List UInt8) w (hq : q.length ≤ 2097152) => refRight_str q w hq)
  have HMS := Lib.hid (fun q => move_str (q := q) hp0 ho0)
  have HMO := Lib.hid (fun q => moveP_off (old := o.data.toList) (p := p.data.toList) (q := q))
  obtain ⟨n, hn⟩ : ∃ n, S.ls.length = n := ⟨_, rfl⟩
  have HN := Lib.hid hn
  rw [hn] at hl HC
  obtain ⟨al, hal⟩ : ∃ al, (S.ls.all fun y => rightB (moveP o.data.toList p.data.toList y.1)) = al := ⟨_, rfl⟩
  have HAL := Lib.hid hal
  obtain ⟨F, hF⟩ : ∃ F, mvF o.data.toList p.data.toList = F := ⟨_, rfl⟩
  have HF := Lib.hid (fun (y : List UInt8 × Int) => (show F y = (moveP o.data.toList p.data.toList y.1, y.2) from by rw [← hF]; rfl))
  rw [hal, hF]
  have HOL := Lib.hid (show o.data.toList.length = o.size from Array.length_toList)
  have HPL := Lib.hid (show p.data.toList.length = p.size from Array.length_toList)
  clear h ho ht hcell hn hcap hal hF ho0 hp0
  go_enter Tryz.func135, Tryz.ntmps135
  go_wp2_with fail
  go_loopw [8, 9, 10] (fun u a _ wr => ∃ (j : Nat) (l : List (List UInt8 × Int)), a = .int .i64 (j : Int) ∧ j ≤ n ∧ l = (S.ls.take j).map F ∧ (∀ y ∈ S.ls.take j, rightB (F y).1 = true) ∧ wr.ownsRow w.heap.size 129 2 u l.length (encDs B l) ∧ Below w.heap.size w wr) (fun _ a _ _ => n - (intOf a).toNat)
  case atStart => exact ⟨0, [], rfl, Nat.zero_le _, rfl, fun y hy => (by rw [List.take_zero] at hy; cases hy), World.ownsRow_nil _ _ _ _, Below.refl _ _⟩
  case round =>
    obtain ⟨j, l, rfl, hj, hlq, hrt, hO, hB⟩ := hrel
    have HLQ := Lib.hid hlq
    have HRR := Lib.hid hrt
    have HO := Lib.hid hO
    have HB := Lib.hid hB
    have HFL := Lib.hid (show l.length ≤ 1000000 by rw [hlq, List.length_map]; have := List.length_take_le j S.ls; omega)
    obtain ⟨A1, m1, c1, rfl⟩ := own_slice hO
    obtain ⟨x0, x1, hx⟩ := HC.out wr hB
    have HX := Lib.hid hx
    clear hO hB hx hlq hrt
    rcases Nat.lt_or_ge j n with h | h
    · obtain ⟨y, hy⟩ : ∃ y, S.ls[j]? = some y := ⟨_, List.getElem?_eq_getElem (by rw [HN.out]; exact h)⟩
      obtain ⟨z0, z1, zb⟩ := HX.out j y hy
      have hyl := HRI.out j y hy
      have HTK := Lib.hid (map_snoc F hy)
      have HFY := Lib.hid (HF.out y)
      have HYM := Lib.hid (List.mem_of_getElem? hy)
      have HTR := Lib.hid (show rightB (F y).1 = true → ∀ z ∈ S.ls.take (j + 1), rightB (F z).1 = true from fun hr z hz => by
        obtain ⟨hi, he⟩ := List.getElem?_eq_some_iff.1 hy
        rw [List.take_succ_eq_append_getElem hi, he] at hz
        rcases List.mem_append.1 hz with hz | hz
        · exact HRR.out z hz
        · rw [List.mem_singleton] at hz; rw [hz]; exact hr)
      have HAF := Lib.hid (show rightB (F y).1 = false → al = false from fun hr => by
        rw [← HAL.out, List.all_eq_false]
        exact ⟨y, HYM.out, by rw [HF.out y] at hr; rw [hr]; decide⟩)
      have HUY := Lib.hid (fun w => HUN.out y.1 w (by omega))
      have hi2 : (j : Int) < (n : Int) := by omega
      have HJ := Lib.hid h
      have wj : IntKind.i64.wrap ((j : Int) + 1) = (j : Int) + 1 := by rw [IntKind.wrap_i64]; omega
      have hb2 := (Below.refl wr.heap.size wr).alloc (Nat.le_refl _) (.cells #[.string (str y.1), ptrB (B y.2)] 129)
      have N2 := Blk.new wr 129 [.string (str y.1), ptrB (B y.2)]
      have B2 := Lib.hid (HB.out.trans (hb2.mono HB.out.size))
      have O2 := Lib.hid (row_heap HO.out (fun b hb => hb2.block b (row_lt HO.out hb).2))
      have HNE := Lib.hid (show ∀ b, (Value.slice A1 m1 c1).ownBlock = some b → b ≠ wr.heap.size from fun b hb => by have := (row_lt HO.out hb).2; omega)
      have HLO := Lib.hid HB.out.size
      have hsz2 : (wr.alloc (.cells #[.string (str y.1), ptrB (B y.2)] 129)).heap.size = wr.heap.size + 1 := World.size_alloc _ _
      have HN2 := Lib.hid N2
      have hyl2 : (str y.1).size = y.1.length := str_size _
      have HYL := Lib.hid hyl
      have HEX := Lib.hid (fun (hle : o.size ≤ y.1.length) => (show (str y.1).extract o.size (str y.1).size = str (y.1.drop o.size) by
        rw [extract_str (str y.1) o.size (str y.1).size (by rw [hyl2]; exact hle) (Nat.le_refl _), str_data, List.take_of_length_le (by rw [List.length_drop, hyl2]; exact Nat.le_refl _)]))
      have HSY := Lib.hid hyl2
      obtain ⟨xb, hxb⟩ : ∃ xb, wr.heap.size = xb := ⟨_, rfl⟩
      obtain ⟨ad, had⟩ : ∃ ad, B y.2 = ad := ⟨_, rfl⟩
      unfold ptrB at z1 hb2 N2 HN2 B2 O2
      rw [had] at z1 hb2 N2 HN2 B2 O2
      rw [hxb] at HN2 HNE N2
      clear hy h hj zb hb2 hsz2 hyl hyl2
      obtain ⟨sy, hsy⟩ : ∃ sy, str y.1 = sy := ⟨_, rfl⟩
      rw [hsy] at z0 HN2 B2 O2 HUY HEX HSY N2
      clear N2
      go_wp2_with fail
      generalize hw2 : wr.alloc _ = w2 at *
      refine (HUY.out w2).mono ?_
      rintro e w3 ⟨rfl, hb3⟩
      have N3 := Lib.hid (HN2.out.below hb3)
      have B3 := Lib.hid (B2.out.trans (hb3.mono B2.out.size))
      have O3 := Lib.hid (row_heap O2.out (fun b hb => hb3.block b (row_lt O2.out hb).2))
      clear hb3 HN2 B2 O2 HUY z0 z1
      have q0 := N3.out.cell 0
      have f0 := N3.out.frozen 0
      simp only [List.getElem?_cons_zero] at q0
      obtain ⟨px, hpx⟩ : ∃ px, pfxB (splitB y.1) (splitB o.data.toList) = px := ⟨_, rfl⟩
      rw [hpx]
      have hlo := HLO.out
      rw [hxb] at hlo
      cases px with
      | true =>
        obtain ⟨hm1, hm2⟩ := HMS.out y.1 hpx
        rw [HOL.out] at hm1 hm2
        obtain ⟨q, hq⟩ : ∃ q, moveP o.data.toList p.data.toList y.1 = q := ⟨_, rfl⟩
        have HFQ := Lib.hid (show F y = (q, y.2) by rw [HFY.out, hq])
        obtain ⟨sd, hsd⟩ : ∃ sd, str (y.1.drop o.size) = sd := ⟨_, rfl⟩
        obtain ⟨sm, hsm⟩ : ∃ sm, str q = sm := ⟨_, rfl⟩
        have hex : sy.extract o.size sy.size = sd := by rw [HEX.out hm2, hsd]
        have hcat : p ++ sd = sm := by
          rw [← hsd, ← hsm, ← hq, hm1, ← str_cat, str_of]
        have hle : (o.size : Int) ≤ (sy.size : Int) := by rw [HSY.out]; omega
        have hle2 : o.size ≤ sy.size := by rw [HSY.out]; exact hm2
        have hsds : sd.size ≤ 200 := by rw [← hsd, str_size, List.length_drop]; have := HYL.out; omega
        have z2 : ¬ 9223372036854775807 < p.size + sd.size := by omega
        have hql : q.length ≤ 2097152 := by rw [← hq, hm1, List.length_append, List.length_drop, HPL.out]; have := HYL.out; omega
        have HRQ := Lib.hid (fun w => HRT.out q w hql)
        have HQS := Lib.hid (show str q = sm ∧ B y.2 = ad from ⟨hsm, had⟩)
        rw [hsm] at HRQ
        have N4 := Lib.hid (N3.out.set 0 (.string sm))
        have B4 := Lib.hid (show Below w.heap.size w (w3.setCell ⟨xb, 0, none⟩ (.string sm)) from B3.out.setCell hlo _)
        have O4 := Lib.hid (row_heap O3.out (w' := w3.setCell ⟨xb, 0, none⟩ (.string sm)) (fun b hb => heap_setCell_other w3 ⟨xb, 0, none⟩ b _ (by have := HNE.out b hb; exact this)))
        have s0 := N4.out.cell 0
        simp only [List.getElem?_cons_zero, List.set_cons_zero] at s0
        clear hm1 hm2 hq hsd hsm hql hpx hsds hxb hsy had hlo
        go_wp2_with fail
        refine (HRQ.out _).mono ?_
        rintro e w5 ⟨rfl, hb5⟩
        have N5 := Lib.hid (N4.out.below hb5)
        have B5 := Lib.hid (B4.out.trans (hb5.mono B4.out.size))
        have O5 := Lib.hid (row_heap O4.out (fun b hb => hb5.block b (row_lt O4.out hb).2))
        clear hb5 N4 B4 O4
        obtain ⟨rq, hrq⟩ : ∃ rq, rightB q = rq := ⟨_, rfl⟩
        rw [hrq]
        cases rq with
        | false =>
          have K := Lib.hid (HAF.out (by rw [HFQ.out]; exact hrq))
          clear hrq
          go_wp2_with fail
          go_ret2
          rw [K.out]
          exact ⟨by unfold MvPost; rw [if_neg (by simp)]; rfl, B5.out⟩
        | true =>
          have HT5 := Lib.hid (HTR.out (by rw [HFQ.out]; exact hrq))
          obtain ⟨A6, m6, c6, w6, hap, hO6, hB6⟩ := push_name (F y) O5.out B5.out HFL.out
          have O6 := Lib.hid hO6
          have B6 := Lib.hid hB6
          rw [HFQ.out] at hap
          dsimp only at hap
          rw [HQS.out.1, HQS.out.2] at hap
          unfold ptrB at hap
          have HL6 := Lib.hid (show l ++ [F y] = (S.ls.take (j + 1)).map F by rw [HTK.out, HLQ.out])
          have r0 := N5.out.cell 0
          have r1 := N5.out.cell 1
          simp only [List.set_cons_zero, List.getElem?_cons_zero, List.getElem?_cons_succ] at r0 r1
          clear hO6 hB6 hrq
          go_wp2_with (at_builtin; refine halt_in ?_)
          refine Halted.out (wpList_append_run rfl _ _ _ _ rfl rfl rfl hap ?_)
          clear hap r0 r1
          go_wp2_with fail
          go_roundw
          case rel => exact ⟨j + 1, _, by go_num, by have := HJ.out; omega, HL6.out, HT5.out, O6.out, B6.out⟩
          case measure => have := HJ.out; simp [intOf] <;> omega
      | false =>
        obtain ⟨q, hq⟩ : ∃ q, y.1 = q := ⟨_, rfl⟩
        have HFQ := Lib.hid (show F y = (q, y.2) by rw [HFY.out, HMO.out y.1 hpx, hq])
        have HRQ := Lib.hid (fun w => HRT.out q w (by rw [← hq]; have := HYL.out; omega))
        have HQS := Lib.hid (show str q = sy ∧ B y.2 = ad from ⟨by rw [← hq, hsy], had⟩)
        rw [HQS.out.1] at HRQ
        have N4 := Lib.hid N3.out
        have B4 := Lib.hid B3.out
        have O4 := Lib.hid O3.out
        clear hpx hxb hsy had hlo hq
        go_wp2_with fail
        refine (HRQ.out _).mono ?_
        rintro e w5 ⟨rfl, hb5⟩
        have N5 := Lib.hid (N4.out.below hb5)
        have B5 := Lib.hid (B4.out.trans (hb5.mono B4.out.size))
        have O5 := Lib.hid (row_heap O4.out (fun b hb => hb5.block b (row_lt O4.out hb).2))
        clear hb5 N4 B4 O4
        obtain ⟨rq, hrq⟩ : ∃ rq, rightB q = rq := ⟨_, rfl⟩
        rw [hrq]
        cases rq with
        | false =>
          have K := Lib.hid (HAF.out (by rw [HFQ.out]; exact hrq))
          clear hrq
          go_wp2_with fail
          go_ret2
          rw [K.out]
          exact ⟨by unfold MvPost; rw [if_neg (by simp)]; rfl, B5.out⟩
        | true =>
          have HT5 := Lib.hid (HTR.out (by rw [HFQ.out]; exact hrq))
          obtain ⟨A6, m6, c6, w6, hap, hO6, hB6⟩ := push_name (F y) O5.out B5.out HFL.out
          have O6 := Lib.hid hO6
          have B6 := Lib.hid hB6
          rw [HFQ.out] at hap
          dsimp only at hap
          rw [HQS.out.1, HQS.out.2] at hap
          unfold ptrB at hap
          have HL6 := Lib.hid (show l ++ [F y] = (S.ls.take (j + 1)).map F by rw [HTK.out, HLQ.out])
          have r0 := N5.out.cell 0
          have r1 := N5.out.cell 1
          simp only [List.set_cons_zero, List.getElem?_cons_zero, List.getElem?_cons_succ] at r0 r1
          clear hO6 hB6 hrq
          go_wp2_with (at_builtin; refine halt_in ?_)
          refine Halted.out (wpList_append_run rfl _ _ _ _ rfl rfl rfl hap ?_)
          clear hap r0 r1
          go_wp2_with fail
          go_roundw
          case rel => exact ⟨j + 1, _, by go_num, by have := HJ.out; omega, HL6.out, HT5.out, O6.out, B6.out⟩
          case measure => have := HJ.out; simp [intOf] <;> omega
    · obtain rfl : j = n := by omega
      have hin : ¬ ((j : Int) < (j : Int)) := by omega
      have HE := Lib.hid (show l = S.ls.map F by rw [HLQ.out, List.take_of_length_le (by rw [HN.out]; exact Nat.le_refl _)])
      have K := Lib.hid (show al = true by
        rw [← HAL.out, List.all_eq_true]
        intro y hy
        have := HRR.out y (by rw [List.take_of_length_le (by rw [HN.out]; exact Nat.le_refl _)]; exact hy)
        rw [HF.out y] at this
        exact this)
      clear h hj
      go_wp2_with fail
      go_ret2
      rw [K.out, ← HE.out]
      exact ⟨by unfold MvPost; rw [if_pos rfl]; exact ⟨_, rfl, HO.out⟩, HB.out⟩
end Go.Proofs.YtlbbehfbjbbckaaGreatDoor

/-! The document's tree: Rename, plainly; the row of names when one changes. -/
set_option linter.unusedVariables false
set_option linter.unusedSimpArgs false
namespace Go.Proofs.YtlbbehfbjbbckaaGreatDoor
open Go.RowKit
attribute [local go_sem] str_toList

theorem look_at {S : St} {p : List UInt8} {o : Option Int} (hp : p ≠ []) (h : S.look p = (o, 0)) : rightB p = true ∧ S.at p = o ∧ ∃ d, S.at (parentB p) = some d ∧ (S.th d).kind = 2 := by
  unfold St.look at h
  by_cases h1 : rightB p = false
  · rw [if_pos h1] at h; simp at h
  rw [if_neg h1, if_neg hp] at h
  refine ⟨by simpa using h1, ?_⟩
  cases hd : S.at (parentB p) with
  | none => rw [hd] at h; simp at h
  | some d =>
    rw [hd] at h
    simp only at h
    by_cases hk : (S.th d).kind = 2
    · rw [if_pos hk] at h
      simp only [Prod.mk.injEq, and_true] at h
      exact ⟨h, d, rfl, hk⟩
    · rw [if_neg hk] at h; simp at h
theorem move_ok {S : St} (ho : OkS S) {old p : List UInt8} {i d : Int} (ro : rightB old = true) (rp : rightB p = true) (o0 : old ≠ []) (p0 : p ≠ []) (ha : S.at old = some i) (hf : S.at p = none) (hu : S.at (parentB p) = some d) (hd : (S.th d).kind = 2)
    (h2 : (S.th i).kind = 2 → pfxB (splitB p) (splitB old) = false ∧ ∀ y ∈ S.ls, rightB (moveP old p y.1) = true) : MoveOk S old p i d := by
  have hpo : p ≠ old := fun e => by rw [e, ha] at hf; cases hf
  refine ⟨ro, rp, o0, p0, ha, hf, hu, hd, ?_, fun y hy => ?_⟩
  · by_cases hk : (S.th i).kind = 2
    · exact (h2 hk).1
    · cases hx : pfxB (splitB p) (splitB old) with
      | false => rfl
      | true =>
        obtain ⟨Z, hz⟩ := pfx_ex.1 hx
        have hZ : Z ≠ [] := fun e => by rw [e, List.append_nil] at hz; exact hpo (splitB_inj hz)
        have hsp := split_parent p0 rp
        rw [hz, ← List.dropLast_concat_getLast hZ, ← List.append_assoc] at hsp
        have h3 := (List.append_inj' hsp rfl).1.symm
        obtain ⟨j, g1, g2⟩ := ho.above Z.dropLast.length Z.dropLast (parentB p) d rfl ((ho.at_iff _ _).1 hu) h3
        rw [ha, Option.some.injEq] at g1
        subst g1
        by_cases hd0 : Z.dropLast = []
        · rw [hd0, List.append_nil] at h3
          have := splitB_inj h3
          rw [this, ha, Option.some.injEq] at hu
          subst hu
          exact absurd hd hk
        · exact absurd (g2 hd0) hk
  · by_cases hk : (S.th i).kind = 2
    · exact (h2 hk).2 y hy
    · by_cases hy1 : y.1 = old
      · rw [hy1, moveP_self]; exact rp
      · rw [ho.leaf (q := y.1) (j := y.2) ha hk hy hy1]; exact ho.right y hy
theorem parent_ne {p : List UInt8} (p0 : p ≠ []) (rp : rightB p = true) : parentB p ≠ p := fun e => by
  have := split_parent p0 rp
  rw [e] at this
  have := congrArg List.length this
  simp at this
theorem file_move {S : St} (ho : OkS S) {old p : List UInt8} {i : Int} {was : Option Int} (ro : rightB old = true) (rp : rightB p = true) (o0 : old ≠ []) (p0 : p ≠ []) (ha : S.at old = some i) (hk : (S.th i).kind ≠ 2) (hl : S.look p = (was, 0)) (hw : ∀ j, was = some j → (S.th j).kind ≠ 2 ∧ j ≠ i) :
    OkS (St.moved { S with ls := S.ls.filter (fun y => y.1 != p) } old p) ∧ p ≠ old ∧ OkS { S with ls := S.ls.filter (fun y => y.1 != p) } := by
  obtain ⟨_, h1, d, h2, h3⟩ := look_at p0 hl
  have hpo : p ≠ old := fun e => by
    rw [e, ha] at h1
    exact (hw i h1.symm).2 rfl
  have hin : S.hasIn p = false := by
    cases hwas : was with
    | some j => exact hasIn_leaf ho (h1.trans hwas) (hw j hwas).1
    | none =>
      unfold St.hasIn
      rw [List.any_eq_false]
      intro x hx
      by_cases e1 : x.1 = []
      · simp [e1]
      · by_cases e2 : parentB x.1 = p
        · obtain ⟨d', g1, _⟩ := ho.up x hx e1
          rw [e2, h1, hwas] at g1; cases g1
        · simp [e2]
  have ho1 := ho.gone p0 hin
  have hat : ∀ q i, (St.at { S with ls := S.ls.filter (fun y => y.1 != p) } q = some i ↔ q ≠ p ∧ S.at q = some i) := fun q i => gone_at (S := S) (p := p) (q := q) ho1 ho i
  refine ⟨ho1.move (d := d) (i := i) (move_ok ho1 ro rp o0 p0 ((hat old i).2 ⟨fun e => hpo e.symm, ha⟩) ?_ ((hat _ d).2 ⟨parent_ne p0 rp, h2⟩) h3 (fun h => absurd h hk)), hpo, ho1⟩
  cases hq : St.at { S with ls := S.ls.filter (fun y => y.1 != p) } p with
  | none => rfl
  | some j => exact absurd rfl ((hat p j).1 hq).1
theorem dir_move {S : St} (ho : OkS S) {old p : List UInt8} {i : Int} (ro : rightB old = true) (rp : rightB p = true) (o0 : old ≠ []) (p0 : p ≠ []) (ha : S.at old = some i) (hl : S.look p = (none, 0)) (hx : ¬ (p ≠ old ∧ pfxB (splitB p) (splitB old) = true)) (hal : (S.ls.all fun y => rightB (moveP old p y.1)) = true) : OkS (S.moved old p) := by
  obtain ⟨_, h1, d, h2, h3⟩ := look_at p0 hl
  have hpo : p ≠ old := fun e => by rw [e, ha] at h1; cases h1
  refine ho.move (d := d) (i := i) (move_ok ho ro rp o0 p0 ha h1 h2 h3 (fun _ => ⟨?_, fun y hy => List.all_eq_true.1 hal y hy⟩))
  cases hq : pfxB (splitB p) (splitB old) with
  | false => rfl
  | true => exact absurd ⟨hpo, hq⟩ hx
theorem encDs_set (B : Int → Nat) : ∀ (l : List (List UInt8 × Int)) (i : Nat) (x : List UInt8 × Int) (p : List UInt8), l[i]? = some x → encDs B (l.set i (p, x.2)) = (encDs B l).set (i * 2) (.string (str p))
  | [], _, _, _, h => by simp at h
  | a :: l, 0, x, p, h => by
    simp only [List.getElem?_cons_zero, Option.some.injEq] at h
    subst h
    rw [List.set_cons_zero, encDs_cons, encDs_cons]; rfl
  | a :: l, i + 1, x, p, h => by
    simp only [List.getElem?_cons_succ] at h
    rw [List.set_cons_succ, encDs_cons, encDs_cons, encDs_set B l i x p h, show (i + 1) * 2 = i * 2 + 1 + 1 by omega]; rfl
theorem own_set {w : World} {base : Nat} {e : TypeId} {sz n cap g : Nat} {xs : List Value} (h : w.ownsRow base e sz (.slice (some ⟨g, 0, none⟩) n cap) n xs) (j : Nat) (u : Value) (hj : j < n * sz) : (w.setCell ⟨g, j, none⟩ u).ownsRow base e sz (.slice (some ⟨g, 0, none⟩) n cap) n (xs.set j u) := by
  obtain ⟨h1, h2⟩ := h
  rcases h2 with ⟨hv, _⟩ | ⟨g', cap', cur, hv, hg, hh, h3, h4, h5, h6⟩
  · cases hv
  · cases hv
    have hB : Blk w g e cur.toList := by unfold Blk; rw [Array.toArray_toList]; exact hh
    refine ⟨by rw [List.length_set]; exact h1, .inr ⟨g, cap, (cur.toList.set j u).toArray, rfl, hg, hB.set j u, h3, h4, by simpa using h5, ?_⟩⟩
    show (cur.toList.set j u).take (n * sz) = xs.set j u
    rw [List.take_set, h6]
end Go.Proofs.YtlbbehfbjbbckaaGreatDoor
