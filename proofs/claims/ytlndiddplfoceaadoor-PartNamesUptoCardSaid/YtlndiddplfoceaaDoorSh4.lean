import Derived.Test.YtlndiddplfoceaaDoorSh3
import Derived.Deep.RegionLaw
import Derived.Laws.CopyOwn
set_option linter.unusedVariables false
set_option linter.unusedSimpArgs false
namespace Go.Proofs.YtlndiddplfoceaaDoor
open Go.RowKit

structure S8 where
  a : Int
  b : Int
  c : Int
  d : Int
  e : Int
  f : Int
  g : Int
  h : Int
def S8.l (s : S8) : List Int := [s.a, s.b, s.c, s.d, s.e, s.f, s.g, s.h]
def rndX (s : S8) (k w : Int) : Int :=
  (s.h + bits .xor .u32 (bits .xor .u32 (turnI s.e 6) (turnI s.e 11)) (turnI s.e 25) + bits .xor .u32 (bits .and .u32 s.e s.f) (bits .and .u32 (bits .xor .u32 IntKind.u32.max s.e) s.g) + k + w) % 4294967296
def rndY (s : S8) : Int :=
  (bits .xor .u32 (bits .xor .u32 (turnI s.a 2) (turnI s.a 13)) (turnI s.a 22) + bits .xor .u32 (bits .xor .u32 (bits .and .u32 s.a s.b) (bits .and .u32 s.a s.c)) (bits .and .u32 s.b s.c)) % 4294967296
def rnd (s : S8) (k w : Int) : S8 := ⟨(rndX s k w + rndY s) % 4294967296, s.a, s.b, s.c, (s.d + rndX s k w) % 4294967296, s.e, s.f, s.g⟩
def rndN (bs : List UInt8) (s : S8) : Nat → S8
  | 0 => s
  | k+1 => rnd (rndN bs s k) (kI[k]?.getD 0) ((wX bs 48)[k]?.getD 0)
def addS (s v : S8) : S8 := ⟨(s.a + v.a) % 4294967296, (s.b + v.b) % 4294967296, (s.c + v.c) % 4294967296, (s.d + v.d) % 4294967296, (s.e + v.e) % 4294967296, (s.f + v.f) % 4294967296, (s.g + v.g) % 4294967296, (s.h + v.h) % 4294967296⟩
def mixL (s v : S8) (j : Nat) : List Int := (addS s v).l.take j ++ s.l.drop j
theorem grown_set {w w1 : World} {g : Nat} (h : w.grownBy w1 (some g)) (j : Nat) (v : Value) : w.grownBy (w1.setCell ⟨g, j, none⟩ v) (some g) :=
  ⟨h.os, h.tape, h.output, by simp; exact h.size, fun k hk hne => (heap_setCell_other w1 _ k v (by intro e; exact hne (by rw [e]))).trans (h.block k hk hne)⟩
theorem grown_drew {w w1 : World} {row : Option Nat} (h : w.grownBy w1 row) : w.grownBy w1.drew row := ⟨h.os, h.tape, h.output, h.size, h.block⟩
theorem stC_have {h : List Int} {bs : List UInt8} {hv n : Int} (hh : h.length = 8) (hb : bs.length = 64) (x : Int) : (stC h bs hv n).set 72 (.int .i64 x) = stC h bs x n := by
  unfold stC
  rw [List.set_append_right _ _ (by rw [List.length_append, u32s_len, bys_length]; omega), List.length_append, u32s_len, bys_length, hh, hb]; rfl
theorem stC_at72 {h : List Int} {bs : List UInt8} {hv n : Int} (hh : h.length = 8) (hb : bs.length = 64) : (stC h bs hv n)[72]? = some (.int .i64 hv) := by
  unfold stC
  rw [List.getElem?_append_right (by rw [List.length_append, u32s_len, bys_length]; omega), List.length_append, u32s_len, bys_length, hh, hb]; rfl
theorem u32s_at {l : List Int} {j : Nat} (h : j < l.length) : (u32s l)[j]? = some (.int .u32 (l[j]?.getD 0)) := by
  simp [u32s, List.getElem?_eq_getElem h]

/-- What a round of take reads. -/
structure RdI (W : World) (H g b2 b3 b4 k : Nat) (bs : List UInt8) (h : List Int) (hv n : Int) (V : S8) (kk wk : Int) (w : World) : Prop where
  c4 : Blk w b4 46 (u32s V.l)
  c2 : Blk w b2 55 (u32s (wX bs 48))
  c3 : Blk w b3 55 (u32s kI)
  cs : St w g h bs hv n
  cb : Below H W w
  d2 : w.cell? ⟨b2, k, none⟩ = some (.int .u32 wk)
  d3 : w.cell? ⟨b3, k, none⟩ = some (.int .u32 kk)
theorem RdI.drewN {W : World} {H g b2 b3 b4 k : Nat} {bs : List UInt8} {h : List Int} {hv n : Int} {V : S8} {kk wk : Int} {w : World} (r : RdI W H g b2 b3 b4 k bs h hv n V kk wk w) (m : Nat) : RdI W H g b2 b3 b4 k bs h hv n V kk wk (w.drewN m) :=
  ⟨r.c4.drewN m, r.c2.drewN m, r.c3.drewN m, Blk.drewN r.cs m, below_drewN r.cb m, r.d2, r.d3⟩
theorem RdI.ys {W : World} {H g b2 b3 b4 k : Nat} {bs : List UInt8} {h : List Int} {hv n : Int} {V : S8} {kk wk : Int} {w : World} (r : RdI W H g b2 b3 b4 k bs h hv n V kk wk w) :
    w.cell? ⟨b4, 0, none⟩ = some (.int .u32 V.a) ∧ w.cell? ⟨b4, 1, none⟩ = some (.int .u32 V.b) ∧ w.cell? ⟨b4, 2, none⟩ = some (.int .u32 V.c) ∧ w.cell? ⟨b4, 3, none⟩ = some (.int .u32 V.d) ∧
    w.cell? ⟨b4, 4, none⟩ = some (.int .u32 V.e) ∧ w.cell? ⟨b4, 5, none⟩ = some (.int .u32 V.f) ∧ w.cell? ⟨b4, 6, none⟩ = some (.int .u32 V.g) ∧ w.cell? ⟨b4, 7, none⟩ = some (.int .u32 V.h) :=
  ⟨r.c4.cell 0, r.c4.cell 1, r.c4.cell 2, r.c4.cell 3, r.c4.cell 4, r.c4.cell 5, r.c4.cell 6, r.c4.cell 7⟩

set_option maxRecDepth 100000 in
set_option maxHeartbeats 4000000 in
theorem take_any (g : Nat) (s0 : S8) (bs : List UInt8) (hv n : Int) (w : World) (hb : bs.length = 64) (hs : St w g s0.l bs hv n) :
    Calls Tryd.prog 26 #[.pointer (some ⟨g, 0, none⟩)] w fun e w' => e = .returned (.tuple #[]) ∧ St w' g (addS s0 (rndN bs s0 64)).l bs 0 n ∧ w.grownBy w' (some g) := by
  have HBL := Lib.hid hb
  have HS := Lib.hid hs
  have hsz64 : (Tryd.prog.info? 48).map (·.size) = some (bys bs).length := by rw [bys_length, hb]; kernel_rfl
  have hsz8 : (Tryd.prog.info? 46).map (·.size) = some (u32s s0.l).length := by kernel_rfl
  have hI64 : (Tryd.prog.info? 55).map (·.zero) = some (some (.agg (u32s (zeroL 64)).toArray)) := by kernel_rfl
  have hI8 : (Tryd.prog.info? 46).map (·.zero) = some (some (.agg (u32s (zeroL 8)).toArray)) := by kernel_rfl
  obtain ⟨i64, hi64, hz64⟩ := Option.map_eq_some_iff.1 hI64
  obtain ⟨i8, hi8, hz8⟩ := Option.map_eq_some_iff.1 hI8
  have HI := Lib.hid (And.intro hsz64 (And.intro hsz8 (And.intro hi64 (And.intro hz64 (And.intro hi8 hz8)))))
  clear hb hs hsz64 hsz8 hi64 hz64 hi8 hz8 hI64 hI8
  go_enter Tryd.func26, Tryd.ntmps26
  go_wp2_with fail
  refine wp_region_any (by kernel_rfl) ?_
  change wpAny _ _ _ _ _ _ _ (World.drew _)
  refine wpAny_take (i := 0) (v := .pointer (some ⟨g, 0, none⟩)) rfl (by kernel_rfl) (by kernel_rfl) (by kernel_rfl) (fun _ _ _ h => h) (Or.inl ⟨by rfl, by intro w; go_simp⟩) ?_
  refine wpAny_take (i := 1) (v := .pointer (some ⟨g, 0, none⟩)) rfl (by kernel_rfl) (by kernel_rfl) (by kernel_rfl) (fun _ _ _ h => h) (Or.inl ⟨by rfl, by intro w; go_simp⟩) ?_
  refine wpAny_take (i := 2) (v := .pointer (some ⟨g, 8, none⟩)) rfl (by kernel_rfl) (by kernel_rfl) (by kernel_rfl) (fun _ _ _ h => h) (Or.inl ⟨by rfl, by intro w; go_simp⟩) ?_
  refine wpAny_take (i := 6) (v := .pointer (some ⟨g, 0, none⟩)) rfl (by kernel_rfl) (by kernel_rfl) (by kernel_rfl) (fun _ _ _ h => h) (Or.inl ⟨by rfl, by intro w; go_simp⟩) ?_
  refine wpAny_take (i := 7) (v := .pointer (some ⟨g, 0, none⟩)) rfl (by kernel_rfl) (by kernel_rfl) (by kernel_rfl) (fun _ _ _ h => h) (Or.inl ⟨by rfl, by intro w; go_simp⟩) ?_
  refine wpAny_take (i := 8) (v := .pointer (some ⟨g, 0, none⟩)) rfl (by kernel_rfl) (by kernel_rfl) (by kernel_rfl) (fun _ _ _ h => h) (Or.inl ⟨by rfl, by intro w; go_simp⟩) ?_
  refine tk_region w.heap.size g s0.l bs hv n w rfl HBL.out HS.out rfl _ HI.out.1 HI.out.2.2.1 HI.out.2.2.2.1 HI.out.2.2.2.2.1 HI.out.2.2.2.2.2 HI.out.2.1 ?_
  intro x15 x16 x17 x21 x2 x3 x4 b2 b3 b4 w1 I
  obtain ⟨e2, hb2, k2⟩ := I.s10 rfl
  obtain ⟨e3, hb3, k3⟩ := I.s11 rfl
  obtain ⟨e4, hb4, k4⟩ := I.s12 rfl
  rw [I.s3 rfl, I.s4 rfl, I.s5 rfl, I.s9 rfl, e2, e3, e4]
  simp only [if_true] at k2 k3 k4
  have K2 := Lib.hid k2
  have K3 := Lib.hid k3
  have K4 := Lib.hid k4
  have KS := Lib.hid I.st
  have KB := Lib.hid I.be
  clear I k2 k3 k4 e2 e3 e4
  unfold tkF
  generalize (Value.agg (bys bs).toArray) = z15
  generalize (Value.agg (u32s (wX bs 48)).toArray) = z16
  generalize (Value.agg (u32s kI).toArray) = z17
  generalize (Value.agg (u32s s0.l).toArray) = z21
  go_wp2_with fail
  go_loopw [22] (fun u wr => ∃ k : Nat, u = .int .i64 k ∧ k ≤ 64 ∧ Blk wr b4 46 (u32s (rndN bs s0 k).l) ∧ Blk wr b2 55 (u32s (wX bs 48)) ∧ Blk wr b3 55 (u32s kI) ∧ St wr g s0.l bs hv n ∧ Below w.heap.size w wr) (fun u _ => 64 - (intOf u).toNat)
  case atStart => exact ⟨0, rfl, by omega, K4.out, K2.out, K3.out, KS.out, KB.out⟩
  case round =>
    obtain ⟨k, rfl, hk, c4, c2, c3, cs, cb⟩ := hrel
    rcases Nat.lt_or_ge k 64 with hlt | hge
    · have hsucc : rndN bs s0 (k + 1) = rnd (rndN bs s0 k) (kI[k]?.getD 0) ((wX bs 48)[k]?.getD 0) := rfl
      have HSU := Lib.hid hsucc
      clear hsucc
      have d2 := c2.cell k
      rw [u32s_at (by rw [wX_len]; omega)] at d2
      have d3 := c3.cell k
      rw [u32s_at (by show k < 64; omega)] at d3
      generalize (wX bs 48)[k]?.getD 0 = wk at *
      generalize kI[k]?.getD 0 = kk at *
      generalize rndN bs s0 k = V at *
      obtain ⟨a, b, c, d, e, f, gg, hh⟩ := V
      have R := Lib.hid (show RdI w w.heap.size g b2 b3 b4 k bs s0.l hv n ⟨a, b, c, d, e, f, gg, hh⟩ kk wk wr from ⟨c4, c2, c3, cs, cb, d2, d3⟩)
      obtain ⟨y0, y1, y2, y3, y4, y5, y6, y7⟩ := R.out.ys
      clear c4 c2 c3 cs cb d2 d3
      have k1 : 0 ≤ (k : Int) := by omega
      have k2 : (k : Int) < 64 := by omega
      go_wp2_with fail
      go_quiet (fail)
      clear y0 y1 y2 y3 y4 y5 y6 y7
      have R1 := Lib.hid (R.out.drewN nq)
      generalize wr.drewN nq = w3 at *
      clear R
      obtain ⟨y0, y1, y2, y3, y4, y5, y6, y7⟩ := R1.out.ys
      have d2 := R1.out.d2
      have d3 := R1.out.d3
      go_wp2_with fail
      go_quiet ((exact Calls.quiet_of_same (turned_st _ _ _ (by omega) (by omega))))
      clear y0 y1 y2 y3 y4 y5 y6 y7 d2 d3
      have R2 := Lib.hid (R1.out.drewN nq)
      generalize w3.drewN nq = w4 at *
      clear R1
      obtain ⟨y0, y1, y2, y3, y4, y5, y6, y7⟩ := R2.out.ys
      go_wp2_with fail
      go_quiet ((exact Calls.quiet_of_same (turned_st _ _ _ (by omega) (by omega))))
      clear y0 y1 y2 y3 y4 y5 y6 y7
      have R3 := Lib.hid (R2.out.drewN nq)
      generalize w4.drewN nq = w5 at *
      clear R2
      obtain ⟨y0, y1, y2, y3, y4, y5, y6, y7⟩ := R3.out.ys
      go_wp2_with fail
      have hX : (hh + bits .xor .u32 (bits .xor .u32 (turnI e 6) (turnI e 11)) (turnI e 25) + bits .xor .u32 (bits .and .u32 e f) (bits .and .u32 (bits .xor .u32 IntKind.u32.max e) gg) + kk + wk) % 4294967296 = rndX ⟨a, b, c, d, e, f, gg, hh⟩ kk wk := rfl
      have hY : (bits .xor .u32 (bits .xor .u32 (turnI a 2) (turnI a 13)) (turnI a 22) + bits .xor .u32 (bits .xor .u32 (bits .and .u32 a b) (bits .and .u32 a c)) (bits .and .u32 b c)) % 4294967296 = rndY ⟨a, b, c, d, e, f, gg, hh⟩ := rfl
      rw [hX, hY]
      clear hX hY
      generalize hX : rndX ⟨a, b, c, d, e, f, gg, hh⟩ kk wk = X at *
      generalize hY : rndY ⟨a, b, c, d, e, f, gg, hh⟩ = Y at *
      have hrn : rnd ⟨a, b, c, d, e, f, gg, hh⟩ kk wk = ⟨(X + Y) % 4294967296, a, b, c, (d + X) % 4294967296, e, f, gg⟩ := by rw [← hX, ← hY]; rfl
      rw [hrn] at HSU
      clear hX hY hrn
      go_still_tail 2, (by kernel_rfl)
      change wpList _ _ _ _ _ w5.drew
      refine wpList_copy_own rfl (.tmp 83) (.tmp 84) 39 39 rfl 38 Tryd.underlying39 (by kernel_rfl) b4 1 7 7 ⟨b4, 0, none⟩ 7 8 rfl rfl _ _ R3.out.c4.drew (u32s [a, b, c, d, e, f, gg]) rfl (fun j v hj => ?_) (by simp [u32s, S8.l]) (by simp [u32s, Value.oneCell']) ?_
      · have hj7 : j < 7 := (List.getElem?_eq_some_iff.1 hj).1
        rw [show (⟨b4, 0, none⟩ : Addr).add j = ⟨b4, j, none⟩ by unfold Addr.add; split <;> simp_all]
        have := R3.out.c4.cell j
        rw [show w5.drew.cell? ⟨b4, j, none⟩ = w5.cell? ⟨b4, j, none⟩ from rfl, this, ← hj]
        simp only [u32s, S8.l, List.map_cons, List.map_nil]
        rcases j with _ | _ | _ | _ | _ | _ | _ | j <;> first | rfl | omega
      have b4' : Blk (w5.drew.setRow b4 (u32s [a, a, b, c, d, e, f, gg]).toArray) b4 46 (u32s [a, a, b, c, d, e, f, gg]) := Blk.setRow R3.out.c4.drew _
      have b2' : Blk (w5.drew.setRow b4 (u32s [a, a, b, c, d, e, f, gg]).toArray) b2 55 (u32s (wX bs 48)) := Blk.setRow_other R3.out.c2.drew (Blk.ne R3.out.c2 R3.out.c4 (by decide)) _
      have b3' : Blk (w5.drew.setRow b4 (u32s [a, a, b, c, d, e, f, gg]).toArray) b3 55 (u32s kI) := Blk.setRow_other R3.out.c3.drew (Blk.ne R3.out.c3 R3.out.c4 (by decide)) _
      have bs' : Blk (w5.drew.setRow b4 (u32s [a, a, b, c, d, e, f, gg]).toArray) g 50 (stC s0.l bs hv n) := Blk.setRow_other (Blk.drew R3.out.cs) (Blk.ne R3.out.cs R3.out.c4 (by decide)) _
      have bb' : Below w.heap.size w (w5.drew.setRow b4 (u32s [a, a, b, c, d, e, f, gg]).toArray) := below_setRow R3.out.cb.drew hb4 _
      change wpList _ _ _ _ _ (w5.drew.setRow b4 (u32s [a, a, b, c, d, e, f, gg]).toArray)
      generalize w5.drew.setRow b4 (u32s [a, a, b, c, d, e, f, gg]).toArray = w6 at *
      have z0 : w6.cell? ⟨b4, 0, none⟩ = some (.int .u32 a) := b4'.cell 0
      have z4 : w6.cell? ⟨b4, 4, none⟩ = some (.int .u32 d) := b4'.cell 4
      have q0 := b4'.frozen 0
      have q4 := b4'.frozen 4
      have B4 := Lib.hid (And.intro b4' (And.intro b2' (And.intro b3' (And.intro bs' bb'))))
      clear b4' b2' b3' bs' bb' y0 y1 y2 y3 y4 y5 y6 y7 R3
      go_wp2_with fail
      go_roundw
      case rel =>
        refine ⟨k + 1, by go_num, by omega, ?_, Blk.other (a := ⟨b4, 4, none⟩) (Blk.other (a := ⟨b4, 0, none⟩) B4.out.2.1 (Blk.ne B4.out.2.1 B4.out.1 (by decide)) _) (Blk.ne B4.out.2.1 B4.out.1 (by decide)) _, Blk.other (a := ⟨b4, 4, none⟩) (Blk.other (a := ⟨b4, 0, none⟩) B4.out.2.2.1 (Blk.ne B4.out.2.2.1 B4.out.1 (by decide)) _) (Blk.ne B4.out.2.2.1 B4.out.1 (by decide)) _, Blk.other (a := ⟨b4, 4, none⟩) (Blk.other (a := ⟨b4, 0, none⟩) B4.out.2.2.2.1 (Blk.ne B4.out.2.2.2.1 B4.out.1 (by decide)) _) (Blk.ne B4.out.2.2.2.1 B4.out.1 (by decide)) _, (B4.out.2.2.2.2.setCell hb4 _).setCell hb4 _⟩
        rw [HSU.out]
        exact (B4.out.1.set 0 _).set 4 _
      case measure => simp [intOf]; omega
    · have e64 : k = 64 := by omega
      rw [e64] at c4
      have hd : decide ((k : Int) < 64) = false := decide_eq_false (by omega)
      clear e64
      generalize hV : rndN bs s0 64 = V at *
      have HV := Lib.hid hV
      clear hV
      obtain ⟨a, b, c, d, e, f, gg, hh⟩ := V
      have y0 : wr.cell? ⟨b4, 0, none⟩ = some (.int .u32 a) := c4.cell 0
      have y1 : wr.cell? ⟨b4, 1, none⟩ = some (.int .u32 b) := c4.cell 1
      have y2 : wr.cell? ⟨b4, 2, none⟩ = some (.int .u32 c) := c4.cell 2
      have y3 : wr.cell? ⟨b4, 3, none⟩ = some (.int .u32 d) := c4.cell 3
      have y4 : wr.cell? ⟨b4, 4, none⟩ = some (.int .u32 e) := c4.cell 4
      have y5 : wr.cell? ⟨b4, 5, none⟩ = some (.int .u32 f) := c4.cell 5
      have y6 : wr.cell? ⟨b4, 6, none⟩ = some (.int .u32 gg) := c4.cell 6
      have y7 : wr.cell? ⟨b4, 7, none⟩ = some (.int .u32 hh) := c4.cell 7
      have CS := Lib.hid cs
      have CB := Lib.hid cb
      clear c4 c2 c3 cs cb
      go_wp2_with fail
      clear y0 y1 y2 y3 y4 y5 y6 y7
      have hg0 : w.grownBy wr (some g) := ⟨CB.out.os, CB.out.tape, CB.out.output, CB.out.size, fun k hk _ => CB.out.block k hk⟩
      have HG0 := Lib.hid hg0
      clear hg0
      go_loopw [97] (fun u wq => ∃ j : Nat, u = .int .i64 j ∧ j ≤ 8 ∧ St wq g (mixL s0 ⟨a, b, c, d, e, f, gg, hh⟩ j) bs hv n ∧ w.grownBy wq (some g)) (fun u _ => 8 - (intOf u).toNat)
      case atStart => exact ⟨0, rfl, by omega, CS.out, HG0.out⟩
      case round =>
        obtain ⟨j, rfl, hj, st, gr⟩ := hrel
        have i0 : ∀ w, (Instr.index 46 (.agg #[.int .u32 a, .int .u32 b, .int .u32 c, .int .u32 d, .int .u32 e, .int .u32 f, .int .u32 gg, .int .u32 hh]) (.int .i64 0)).run Tryd.prog w = .ok (.int .u32 a) w := fun _ => by kernel_rfl
        have i1 : ∀ w, (Instr.index 46 (.agg #[.int .u32 a, .int .u32 b, .int .u32 c, .int .u32 d, .int .u32 e, .int .u32 f, .int .u32 gg, .int .u32 hh]) (.int .i64 1)).run Tryd.prog w = .ok (.int .u32 b) w := fun _ => by kernel_rfl
        have i2 : ∀ w, (Instr.index 46 (.agg #[.int .u32 a, .int .u32 b, .int .u32 c, .int .u32 d, .int .u32 e, .int .u32 f, .int .u32 gg, .int .u32 hh]) (.int .i64 2)).run Tryd.prog w = .ok (.int .u32 c) w := fun _ => by kernel_rfl
        have i3 : ∀ w, (Instr.index 46 (.agg #[.int .u32 a, .int .u32 b, .int .u32 c, .int .u32 d, .int .u32 e, .int .u32 f, .int .u32 gg, .int .u32 hh]) (.int .i64 3)).run Tryd.prog w = .ok (.int .u32 d) w := fun _ => by kernel_rfl
        have i4 : ∀ w, (Instr.index 46 (.agg #[.int .u32 a, .int .u32 b, .int .u32 c, .int .u32 d, .int .u32 e, .int .u32 f, .int .u32 gg, .int .u32 hh]) (.int .i64 4)).run Tryd.prog w = .ok (.int .u32 e) w := fun _ => by kernel_rfl
        have i5 : ∀ w, (Instr.index 46 (.agg #[.int .u32 a, .int .u32 b, .int .u32 c, .int .u32 d, .int .u32 e, .int .u32 f, .int .u32 gg, .int .u32 hh]) (.int .i64 5)).run Tryd.prog w = .ok (.int .u32 f) w := fun _ => by kernel_rfl
        have i6 : ∀ w, (Instr.index 46 (.agg #[.int .u32 a, .int .u32 b, .int .u32 c, .int .u32 d, .int .u32 e, .int .u32 f, .int .u32 gg, .int .u32 hh]) (.int .i64 6)).run Tryd.prog w = .ok (.int .u32 gg) w := fun _ => by kernel_rfl
        have i7 : ∀ w, (Instr.index 46 (.agg #[.int .u32 a, .int .u32 b, .int .u32 c, .int .u32 d, .int .u32 e, .int .u32 f, .int .u32 gg, .int .u32 hh]) (.int .i64 7)).run Tryd.prog w = .ok (.int .u32 hh) w := fun _ => by kernel_rfl
        have ST := Lib.hid st
        have GR := Lib.hid gr
        have FZ := Lib.hid (fun j => Blk.frozen st j)
        clear st gr
        rcases Nat.lt_or_ge j 8 with hlt | hge8
        · have hcs : j = 0 ∨ j = 1 ∨ j = 2 ∨ j = 3 ∨ j = 4 ∨ j = 5 ∨ j = 6 ∨ j = 7 := by omega
          clear hj hlt
          rcases hcs with rfl | rfl | rfl | rfl | rfl | rfl | rfl | rfl
          · have cj : wr.cell? ⟨g, 0, none⟩ = some (.int .u32 s0.a) := Blk.cell ST.out 0
            have fj := FZ.out 0
            rw [show ((0 : Nat) : Int) = 0 from rfl]
            go_wp2_with fail
            go_still_tail 11, (by kernel_rfl)
            change wpList _ _ _ _ _ wr.drew
            go_wp2_with fail
            go_roundw
            case rel => exact ⟨1, rfl, by omega, Blk.set (Blk.drew ST.out) 0 _, grown_set (grown_drew GR.out) 0 _⟩
            case measure => simp [intOf]
          · have cj : wr.cell? ⟨g, 1, none⟩ = some (.int .u32 s0.b) := Blk.cell ST.out 1
            have fj := FZ.out 1
            rw [show ((1 : Nat) : Int) = 1 from rfl]
            go_wp2_with fail
            go_still_tail 11, (by kernel_rfl)
            change wpList _ _ _ _ _ wr.drew
            go_wp2_with fail
            go_roundw
            case rel => exact ⟨2, rfl, by omega, Blk.set (Blk.drew ST.out) 1 _, grown_set (grown_drew GR.out) 1 _⟩
            case measure => simp [intOf]
          · have cj : wr.cell? ⟨g, 2, none⟩ = some (.int .u32 s0.c) := Blk.cell ST.out 2
            have fj := FZ.out 2
            rw [show ((2 : Nat) : Int) = 2 from rfl]
            go_wp2_with fail
            go_still_tail 11, (by kernel_rfl)
            change wpList _ _ _ _ _ wr.drew
            go_wp2_with fail
            go_roundw
            case rel => exact ⟨3, rfl, by omega, Blk.set (Blk.drew ST.out) 2 _, grown_set (grown_drew GR.out) 2 _⟩
            case measure => simp [intOf]
          · have cj : wr.cell? ⟨g, 3, none⟩ = some (.int .u32 s0.d) := Blk.cell ST.out 3
            have fj := FZ.out 3
            rw [show ((3 : Nat) : Int) = 3 from rfl]
            go_wp2_with fail
            go_still_tail 11, (by kernel_rfl)
            change wpList _ _ _ _ _ wr.drew
            go_wp2_with fail
            go_roundw
            case rel => exact ⟨4, rfl, by omega, Blk.set (Blk.drew ST.out) 3 _, grown_set (grown_drew GR.out) 3 _⟩
            case measure => simp [intOf]
          · have cj : wr.cell? ⟨g, 4, none⟩ = some (.int .u32 s0.e) := Blk.cell ST.out 4
            have fj := FZ.out 4
            rw [show ((4 : Nat) : Int) = 4 from rfl]
            go_wp2_with fail
            go_still_tail 11, (by kernel_rfl)
            change wpList _ _ _ _ _ wr.drew
            go_wp2_with fail
            go_roundw
            case rel => exact ⟨5, rfl, by omega, Blk.set (Blk.drew ST.out) 4 _, grown_set (grown_drew GR.out) 4 _⟩
            case measure => simp [intOf]
          · have cj : wr.cell? ⟨g, 5, none⟩ = some (.int .u32 s0.f) := Blk.cell ST.out 5
            have fj := FZ.out 5
            rw [show ((5 : Nat) : Int) = 5 from rfl]
            go_wp2_with fail
            go_still_tail 11, (by kernel_rfl)
            change wpList _ _ _ _ _ wr.drew
            go_wp2_with fail
            go_roundw
            case rel => exact ⟨6, rfl, by omega, Blk.set (Blk.drew ST.out) 5 _, grown_set (grown_drew GR.out) 5 _⟩
            case measure => simp [intOf]
          · have cj : wr.cell? ⟨g, 6, none⟩ = some (.int .u32 s0.g) := Blk.cell ST.out 6
            have fj := FZ.out 6
            rw [show ((6 : Nat) : Int) = 6 from rfl]
            go_wp2_with fail
            go_still_tail 11, (by kernel_rfl)
            change wpList _ _ _ _ _ wr.drew
            go_wp2_with fail
            go_roundw
            case rel => exact ⟨7, rfl, by omega, Blk.set (Blk.drew ST.out) 6 _, grown_set (grown_drew GR.out) 6 _⟩
            case measure => simp [intOf]
          · have cj : wr.cell? ⟨g, 7, none⟩ = some (.int .u32 s0.h) := Blk.cell ST.out 7
            have fj := FZ.out 7
            rw [show ((7 : Nat) : Int) = 7 from rfl]
            go_wp2_with fail
            go_still_tail 11, (by kernel_rfl)
            change wpList _ _ _ _ _ wr.drew
            go_wp2_with fail
            go_roundw
            case rel => exact ⟨8, rfl, by omega, Blk.set (Blk.drew ST.out) 7 _, grown_set (grown_drew GR.out) 7 _⟩
            case measure => simp [intOf]
        · have e8 : j = 8 := by omega
          have st8 : St wr g (addS s0 ⟨a, b, c, d, e, f, gg, hh⟩).l bs hv n := by have := ST.out; rw [e8] at this; exact this
          have c72 := Blk.cell st8 72
          rw [stC_at72 rfl HBL.out] at c72
          have f72 := FZ.out 72
          have ST8 := Lib.hid st8
          clear st8 e8
          go_wp2_with fail
          go_end0
          refine ⟨rfl, ?_, grown_set GR.out 72 _⟩
          rw [HV.out]
          have := Blk.set ST8.out 72 (.int .i64 0)
          rw [stC_have rfl HBL.out] at this
          exact this
end Go.Proofs.YtlndiddplfoceaaDoor
