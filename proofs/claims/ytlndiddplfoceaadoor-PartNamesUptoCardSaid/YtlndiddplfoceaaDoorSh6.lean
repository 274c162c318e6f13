import Derived.Test.YtlndiddplfoceaaDoorSh5
set_option linter.unusedVariables false
set_option linter.unusedSimpArgs false
namespace Go.Proofs.YtlndiddplfoceaaDoor
open Go.RowKit

/-- What a state is: the words, the block's bytes, how many of them wait. -/
structure Shs where
  s : S8
  bs : List UInt8
  hv : Nat
/-- One filling of the block. -/
def fillS (x : Shs) (b : List UInt8) : Shs :=
  let k := Nat.min (64 - x.hv) b.length
  let bs := x.bs.take x.hv ++ (b.take k ++ x.bs.drop (x.hv + k))
  if x.hv + k = 64 then ⟨addS x.s (rndN bs x.s 64), bs, 0⟩ else ⟨x.s, bs, x.hv + k⟩
def absorb : Nat → Shs → List UInt8 → Shs
  | 0, x, _ => x
  | f+1, x, b => if b = [] then x else absorb f (fillS x b) (b.drop (Nat.min (64 - x.hv) b.length))
def ShOk (x : Shs) : Prop := x.bs.length = 64 ∧ x.hv < 64
theorem fillS_ok {x : Shs} (h : ShOk x) (b : List UInt8) : ShOk (fillS x b) := by
  obtain ⟨h1, h2⟩ := h
  have hk : Nat.min (64 - x.hv) b.length ≤ 64 - x.hv := Nat.min_le_left _ _
  have hk2 : Nat.min (64 - x.hv) b.length ≤ b.length := Nat.min_le_right _ _
  have hl : (x.bs.take x.hv ++ (b.take (Nat.min (64 - x.hv) b.length) ++ x.bs.drop (x.hv + Nat.min (64 - x.hv) b.length))).length = 64 := by
    rw [List.length_append, List.length_append, List.length_take, List.length_take, List.length_drop, h1]; omega
  unfold fillS
  simp only
  split
  · exact ⟨hl, by simp only; omega⟩
  · exact ⟨hl, by simp only; omega⟩
theorem absorb_nil (f : Nat) (x : Shs) : absorb f x [] = x := by cases f <;> simp [absorb]
theorem grown_trans {w w1 w2 : World} {row : Option Nat} (h : w.grownBy w1 row) (h' : w1.grownBy w2 row) : w.grownBy w2 row :=
  ⟨h'.os.trans h.os, h'.tape.trans h.tape, h'.output.trans h.output, Nat.le_trans h.size h'.size, fun k hk hne => (h'.block k (Nat.lt_of_lt_of_le hk h.size) hne).trans (h.block k hk hne)⟩
/-- A state's block, as it stands in memory. -/
def StX (w : World) (g : Nat) (x : Shs) (n : Int) : Prop := St w g x.s.l x.bs (x.hv : Int) n
theorem stC_at73 {h : List Int} {bs : List UInt8} {hv n : Int} (hh : h.length = 8) (hb : bs.length = 64) : (stC h bs hv n)[73]? = some (.int .i64 n) := by
  unfold stC
  rw [List.getElem?_append_right (by rw [List.length_append, u32s_len, bys_length]; omega), List.length_append, u32s_len, bys_length, hh, hb]; rfl
theorem stC_n {h : List Int} {bs : List UInt8} {hv n : Int} (hh : h.length = 8) (hb : bs.length = 64) (x : Int) : (stC h bs hv n).set 73 (.int .i64 x) = stC h bs hv x := by
  unfold stC
  rw [List.set_append_right _ _ (by rw [List.length_append, u32s_len, bys_length]; omega), List.length_append, u32s_len, bys_length, hh, hb]; rfl
theorem stC_splice {h : List Int} {bs c : List UInt8} {hv n : Int} {o : Nat} (hh : h.length = 8) (hb : bs.length = 64) (ho : o + c.length ≤ 64) :
    (stC h bs hv n).take (8 + o) ++ (bys c ++ (stC h bs hv n).drop (8 + o + c.length)) = stC h (bs.take o ++ (c ++ bs.drop (o + c.length))) hv n := by
  have e1 : (stC h bs hv n).take (8 + o) = u32s h ++ bys (bs.take o) := by
    unfold stC
    rw [List.append_assoc, List.take_append, List.take_of_length_le (by rw [u32s_len]; omega), u32s_len, hh, show 8 + o - 8 = o by omega, List.take_append_of_le_length (by rw [bys_length]; omega)]
    simp [bys, List.map_take]
  have e2 : (stC h bs hv n).drop (8 + o + c.length) = bys (bs.drop (o + c.length)) ++ [.int .i64 hv, .int .i64 n] := by
    unfold stC
    rw [List.append_assoc, List.drop_append, List.drop_of_length_le (by rw [u32s_len]; omega), u32s_len, hh, show 8 + o + c.length - 8 = o + c.length by omega, List.nil_append, List.drop_append_of_le_length (by rw [bys_length]; omega)]
    simp [bys, List.map_drop]
  rw [e1, e2]
  unfold stC
  rw [bys_append, bys_append]
  simp only [List.append_assoc]

set_option maxRecDepth 100000 in
set_option maxHeartbeats 4000000 in
theorem write_any (g : Nat) (x : Shs) (n : Int) (A : Option Addr) (m c : Nat) (b : List UInt8) (w : World) (hx : ShOk x) (hs : StX w g x n) (hb : Sl 1 w A m (bys b)) (hmc : m ≤ c) (hA : ∀ a, A = some a → a.block ≠ g) (hn0 : 0 ≤ n) (hn : n + m ≤ 4611686018427387904) :
    Calls Tryd.prog 17 #[.pointer (some ⟨g, 0, none⟩), .slice A m c] w fun e w' => e = .returned (.tuple #[]) ∧ StX w' g (absorb m x b) (n + m) ∧ w.grownBy w' (some g) := by
  have HBL := Lib.hid (show b.length = m by have := hb.len; simpa [bys] using this)
  have c73 := Blk.cell hs 73
  rw [stC_at73 rfl hx.1] at c73
  have f73 := Blk.frozen hs 73
  have HS := Lib.hid hs
  have HX := Lib.hid hx
  have HB := Lib.hid hb
  have HA := Lib.hid hA
  clear hs hx hb hA
  go_enter Tryd.func17, Tryd.ntmps17
  go_wp2_with fail
  have S1 := Blk.set HS.out 73 (.int .i64 (n + m))
  rw [stC_n rfl HX.out.1] at S1
  have hg1 : w.grownBy (w.setCell ⟨g, 73, none⟩ (.int .i64 (n + m))) (some g) := grown_set ⟨rfl, rfl, rfl, Nat.le_refl _, fun _ _ _ => rfl⟩ 73 _
  have hb1 : Sl 1 (w.setCell ⟨g, 73, none⟩ (.int .i64 (n + m))) A m (bys b) := HB.out.grown hg1 (fun a k ha hk => by cases hk; exact HA.out a ha)
  have hS1 : StX (w.setCell ⟨g, 73, none⟩ (.int .i64 (n + m))) g x (n + m) := S1
  generalize w.setCell ⟨g, 73, none⟩ (.int .i64 (n + m)) = w1 at *
  have G1 := Lib.hid hg1
  have B1 := Lib.hid hb1
  have S2 := Lib.hid hS1
  clear hg1 hb1 hS1 S1 c73 f73
  go_loopw [1] (fun v wq => ∃ A' m' c' b' y f, v = .slice A' m' c' ∧ m' ≤ c' ∧ m' ≤ m ∧ m' ≤ f ∧ Sl 1 wq A' m' (bys b') ∧ (∀ a, A' = some a → a.block ≠ g) ∧ ShOk y ∧ StX wq g y (n + m) ∧ w.grownBy wq (some g) ∧ absorb m x b = absorb f y b') (fun v _ => match v with | .slice _ k _ => k | _ => 0)
  case atStart => exact ⟨A, m, c, b, x, m, rfl, hmc, Nat.le_refl _, Nat.le_refl _, B1.out, HA.out, HX.out, S2.out, G1.out, rfl⟩
  case round =>
    obtain ⟨A', m', c', b', y, f, rfl, hmc', hmm, hmf, hb, ha, hy, hs, hg, he⟩ := hrel
    have hbl : b'.length = m' := by have := hb.len; simpa [bys] using this
    have HE := Lib.hid he
    have HB' := Lib.hid hb
    have HA' := Lib.hid ha
    have HY := Lib.hid hy
    have HS' := Lib.hid hs
    have HG' := Lib.hid hg
    have HBL' := Lib.hid hbl
    rcases Nat.eq_zero_or_pos m' with h0 | hpos
    · have HZ : Hid (b' = []) := Lib.hid (List.eq_nil_of_length_eq_zero (by omega))
      clear he hb ha hy hs hg hbl
      have hd : decide (0 < m') = false := decide_eq_false (by omega)
      go_wp2_with fail
      go_end0
      exact ⟨rfl, by rw [HE.out, HZ.out, absorb_nil]; exact HS'.out, HG'.out⟩
    · obtain ⟨hy1, hy2⟩ := id hy
      obtain ⟨s, bs, hv⟩ := y
      simp only at hy1 hy2
      have c72 : wr.cell? ⟨g, 72, none⟩ = some (.int .i64 (hv : Int)) := by
        have := Blk.cell hs 72
        rwa [stC_at72 rfl hy1] at this
      clear he hb ha hy hs hg hbl
      have v1 : 0 ≤ (hv : Int) := by omega
      have v2 : (hv : Int) ≤ 64 := by omega
      have v3 : ¬ 64 = hv := by omega
      go_wp2_with fail
      go_still_tail 9, (by kernel_rfl)
      change wpList _ _ _ _ _ wr.drew
      obtain ⟨ab, ao, rfl⟩ : ∃ ab ao, A' = some ⟨ab, ao, none⟩ := by
        rcases HB'.out.at_ with h0 | ⟨ab, ao, rfl, _⟩
        · have := congrArg List.length h0; rw [bys_length, HBL'.out] at this; simp at this; omega
        · exact ⟨ab, ao, rfl⟩
      obtain ⟨K, hK, hK1, hK2, hK3⟩ : ∃ K, Nat.min (64 - hv) m' = K ∧ 0 < K ∧ K ≤ 64 - hv ∧ K ≤ m' := ⟨_, rfl, by simp [Nat.min_def]; split <;> omega, Nat.min_le_left _ _, Nat.min_le_right _ _⟩
      have hK' : Nat.min m' (64 - hv) = K := (Nat.min_comm _ _).trans hK
      obtain ⟨cc, hcc⟩ : ∃ cc, b'.take K = cc := ⟨_, rfl⟩
      have hcl : cc.length = K := by rw [← hcc, List.length_take, HBL'.out]; omega
      have hsp := stC_splice (h := s.l) (bs := bs) (c := cc) (hv := hv) (n := n + m) (o := hv) rfl hy1 (by omega)
      have HK := Lib.hid hK
      have HCC := Lib.hid hcc
      have HCL := Lib.hid hcl
      clear hK hcc
      refine wpList_copy_own rfl (.tmp 26) (.tmp 27) 26 26 rfl 5 Tryd.underlying26 (by kernel_rfl) g (8 + hv) (64 - hv) (64 - hv) ⟨ab, ao, none⟩ m' c' rfl rfl (stC s.l bs hv (n + m)).toArray _ (Blk.drew HS'.out) (bys cc) (by rw [bys_length, hcl, hK']) (fun j v hj => ?_) (by rw [bys_length, hcl, List.size_toArray, stC_len rfl hy1]; omega) (bys_one _) ?_
      · rw [show (⟨ab, ao, none⟩ : Addr).add j = ⟨ab, ao + j, none⟩ by unfold Addr.add; split <;> simp_all]
        rcases HB'.out.at_ with h0 | ⟨ab2, ao2, he, hc⟩
        · have := congrArg List.length h0; rw [bys_length, HBL'.out] at this; simp at this; omega
        · cases he
          refine hc j v ?_
          rw [← HCC.out] at hj
          simp only [bys, List.map_take, List.getElem?_take] at hj ⊢
          split at hj
          · exact hj
          · cases hj
      rw [List.toList_toArray, bys_length, hsp]
      clear hsp
      have hw2 : StX (wr.drew.setRow g (stC s.l (bs.take hv ++ (cc ++ bs.drop (hv + cc.length))) hv (n + m)).toArray) g ⟨s, bs.take hv ++ (cc ++ bs.drop (hv + cc.length)), hv⟩ (n + m) := Blk.setRow (Blk.drew HS'.out) _
      have hgr2 : w.grownBy (wr.drew.setRow g (stC s.l (bs.take hv ++ (cc ++ bs.drop (hv + cc.length))) hv (n + m)).toArray) (some g) := ⟨HG'.out.os, HG'.out.tape, HG'.out.output, by simp; exact HG'.out.size, fun k hk hne => (setRow_other wr.drew g k _ (by intro e; exact hne (by rw [e]))).trans (HG'.out.block k hk hne)⟩
      have hgr3 : wr.grownBy (wr.drew.setRow g (stC s.l (bs.take hv ++ (cc ++ bs.drop (hv + cc.length))) hv (n + m)).toArray) (some g) := ⟨rfl, rfl, rfl, by simp, fun k hk hne => setRow_other wr.drew g k _ (by intro e; exact hne (by rw [e]))⟩
      have hb2 := HB'.out.grown hgr3 (fun a k ha hk => by cases hk; exact HA'.out a ha)
      have hl2 : (bs.take hv ++ (cc ++ bs.drop (hv + cc.length))).length = 64 := by rw [List.length_append, List.length_append, List.length_take, List.length_drop, hcl, hy1]; omega
      generalize hb2s : bs.take hv ++ (cc ++ bs.drop (hv + cc.length)) = bs2 at *
      have HBS := Lib.hid hb2s
      clear hb2s
      change wpList _ _ _ _ _ (wr.drew.setRow g (stC s.l bs2 hv (n + m)).toArray)
      generalize wr.drew.setRow g (stC s.l bs2 hv (n + m)).toArray = w2 at *
      have c72 := Blk.cell hw2 72
      rw [stC_at72 rfl hl2] at c72
      have f72 := Blk.frozen hw2 72
      have W2 := Lib.hid hw2
      have G2 := Lib.hid hgr2
      have B2 := Lib.hid hb2
      clear hw2 hgr2 hgr3 hb2
      rw [hcl]
      have c72' : w2.cell? ⟨g, 72, none⟩ = some (.int .i64 (hv : Int)) := c72
      clear c72
      obtain ⟨j0, ji, jz0, jz1, jz2⟩ := info_parts infoB
      have hsl : ∀ w : World, (Instr.slice 26 (.slice (some ⟨ab, ao, none⟩) m' c') (some (.int .i64 K)) none none).run Tryd.prog w = .ok (.slice (subAt (some ⟨ab, ao, none⟩) K c' 1) (m' - K) (c' - K)) w := fun w => run_slice_from underB elemB ji jz1 _ _ _ _ hK3 _ _ rfl
      have v4 : IntKind.i64.wrap ((hv : Int) + (K : Int)) = (hv : Int) + (K : Int) := IntWalk.i64_in _ (by omega)
      have hbf := B2.out.from K c' hK3 hmc' B2.out.sub
      have hAf : ∀ a, subAt (some ⟨ab, ao, none⟩) K c' 1 = some a → a.block ≠ g := by
        intro a ha
        have hne := HA'.out _ rfl
        unfold subAt at ha
        split at ha
        · cases ha; exact hne
        · simp only [Option.map_some, Option.some.injEq] at ha
          rw [← ha, show (⟨ab, ao, none⟩ : Addr).add (K * 1) = ⟨ab, ao + K * 1, none⟩ by unfold Addr.add; split <;> simp_all]
          exact hne
      generalize hsa : subAt (some ⟨ab, ao, none⟩) K c' 1 = A2 at *
      clear hsa
      obtain ⟨f', rfl⟩ : ∃ f', f = f' + 1 := ⟨f - 1, by omega⟩
      have hab : absorb (f' + 1) ⟨s, bs, hv⟩ b' = absorb f' (fillS ⟨s, bs, hv⟩ b') (b'.drop K) := by
        rw [absorb, if_neg (by intro e; rw [e] at HBL'; have := HBL'.out; simp at this; omega)]
        simp only [HBL'.out, HK.out]
      have hfill : fillS ⟨s, bs, hv⟩ b' = if hv + K = 64 then ⟨addS s (rndN bs2 s 64), bs2, 0⟩ else ⟨s, bs2, hv + K⟩ := by
        unfold fillS
        simp only [HBL'.out, HK.out, HCC.out]
        have e := HBS.out
        rw [HCL.out] at e
        rw [e]
      have hfok := fillS_ok HY.out b'
      have hst3 := Blk.set (Blk.drew W2.out) 72 (.int .i64 ((hv : Int) + (K : Int)))
      rw [stC_have rfl hl2] at hst3
      have hg3 := grown_set (grown_drew G2.out) 72 (.int .i64 ((hv : Int) + (K : Int)))
      have hbf3 := (Sl.drew hbf).grown (grown_set (w := w2.drew) ⟨rfl, rfl, rfl, Nat.le_refl _, fun _ _ _ => rfl⟩ 72 (.int .i64 ((hv : Int) + (K : Int)))) (fun a k ha hk => by cases hk; exact hAf a ha)
      have HAB := Lib.hid hab
      have HFI := Lib.hid hfill
      have HFO := Lib.hid hfok
      have H3 := Lib.hid hst3
      have HG3 := Lib.hid hg3
      have HB3 := Lib.hid hbf3
      have HAF := Lib.hid hAf
      clear hab hfill hfok hst3 hg3 hbf3 hAf hbf hK' hcl
      by_cases h64 : hv + K = 64
      · have ht : (hv : Int) + (K : Int) = 64 := by omega
        rw [ht] at v4 H3 HG3 HB3
        go_wp2_with fail
        go_region_law (fail)
        clear v4 hsl f72
        go_wp2_with fail
        change Calls _ _ _ (w2.drew.setCell ⟨g, 72, none⟩ (.int .i64 64)) _
        refine (take_any g s bs2 64 (n + m) _ hl2 H3.out).mono ?_
        rintro e w4 ⟨rfl, hst4, hg4⟩
        have HT4 := Lib.hid hst4
        have HG4 := Lib.hid hg4
        clear hst4 hg4
        go_wp2_with fail
        go_roundw
        case rel => exact ⟨A2, m' - K, c' - K, b'.drop K, _, f', rfl, by omega, by omega, by omega, HB3.out.grown HG4.out (fun a k ha hk => by cases hk; exact HAF.out a ha), HAF.out, HFO.out, by rw [HFI.out, if_pos h64]; exact HT4.out, grown_trans HG3.out HG4.out, by rw [HE.out, HAB.out]⟩
        case measure => simp only; omega
      · have ht : ((hv : Int) + (K : Int) == 64) = false := by simp; omega
        go_wp2_with fail
        go_region_law (fail)
        clear v4 hsl f72
        go_wp2_with fail
        go_roundw
        case rel => exact ⟨A2, m' - K, c' - K, b'.drop K, _, f', rfl, by omega, by omega, by omega, HB3.out, HAF.out, HFO.out, by rw [HFI.out, if_neg h64]; unfold StX; simp only; rw [Int.natCast_add]; exact H3.out, HG3.out, by rw [HE.out, HAB.out]⟩
        case measure => simp only; omega
end Go.Proofs.YtlndiddplfoceaaDoor
