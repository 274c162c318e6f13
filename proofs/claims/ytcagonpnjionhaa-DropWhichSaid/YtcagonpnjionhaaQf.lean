import Derived.Test.YtcagonpnjionhaaQe
import Derived.Test.YtcagonpnjionhaaQd
import Derived.Deep.MidRow
/-! A pattern's signs, read by the document. -/
set_option linter.unusedVariables false
set_option linter.unusedSimpArgs false
namespace Go.Proofs.Ytcagonpnjionhaa
open Go.RowKit

def krF (k : Nat) : Nat := if k = 1 then 3 else if k = 3 then 1 else k
def crF (g : Sg) : UInt8 := if g.k = 1 ∨ g.k = 2 then 42 else if g.k = 3 then 63 else g.c
def encR (g : Sg) : List Value := encK (krF g.k) (crF g) g.nt g.set
def encRs (L : List Sg) : List Value := L.flatMap encR
theorem encRs_snoc (L : List Sg) (g : Sg) : encRs (L ++ [g]) = encRs L ++ encR g := by simp [encRs]
theorem encR_len {g : Sg} (h : g.set.length = 256) : (encR g).length = 259 := encK_len h
theorem size_encR {g : Sg} (h : g.set.length = 256) : (Try.prog.info? 105).map (·.size) = some (encR g).toArray.size := size_sr h
theorem infoR : (Try.prog.info? 105).map (fun i => (i.zero, i.size, i.bytes)) = some (some (.agg zeroG.toArray), 259, 272) := by kernel_rfl
theorem infoR2 : (Try.prog.info? 105).map (fun i => (i.zero.isSome, i.size)) = some (true, 259) := by kernel_rfl
/-- What is told of a pattern. -/
def TellR (p : List UInt8) (w' : World) (e : Ending) : Prop :=
  (∃ (L : List Sg) (A : Option Addr) (c : Nat), e = .returned (.tuple #[.slice A L.length c, .bool true]) ∧ patF p = some L ∧ L.length ≤ 100 ∧ (∀ g ∈ L, g.set.length = 256) ∧ (∀ a, A = some a → a.block < w'.heap.size) ∧ Sl 259 w' A L.length (encRs L)) ∨
  (patF p = none ∧ e = .returned (.tuple #[.slice none 0 0, .bool false]))
/-- One sign more. -/
theorem rg_step {w0 w : World} {base : Nat} {v : Value} {L : List Sg} (hown : w.ownsRow base 105 259 v L.length (encRs L)) (hb : Below base w0 w) (g : Sg) (hg : g.set.length = 256) (hn : L.length ≤ 1000) (hbase : base ≤ w.heap.size) :
    ∃ v' w', (Builtin.append_ #[101, 101] 101 #[v, .slice (some ⟨w.heap.size, 0, none⟩) 1 1]).run Try.prog (w.alloc (.cells (encR g).toArray 105)) = .ok v' w' ∧ w'.ownsRow base 105 259 v' (L ++ [g]).length (encRs (L ++ [g])) ∧ Below base w0 w' := by
  obtain ⟨i0, hi, hz0, hz1, hz2⟩ := info_parts infoR
  obtain ⟨v', w', h1, h2, _, h4⟩ := run_append_one (P := Try.prog) (w0 := w0) base 101 101 105 i0 _ 259 272 Try.underlying101 hi hz0 hz1 hz2 zeroG_len (by decide) hown hb (encR g) (encR_len hg) (encK_mem _ _ _ _) 1 (by omega) (by omega) hbase
  exact ⟨v', w', h1, by rw [encRs_snoc, List.length_append]; exact h2, h4⟩
theorem encK_k (k k' : Int) (c : UInt8) (nt : Bool) (set : List Bool) : (encK k c nt set).set 0 (.int .i64 k') = encK k' c nt set := by simp [encK]
theorem encK_c (k : Int) (c c' : UInt8) (nt : Bool) (set : List Bool) : (encK k c nt set).set 1 (.int .u8 c'.toNat) = encK k c' nt set := by simp [encK]
theorem encK_0 (k : Int) (c : UInt8) (nt : Bool) (set : List Bool) : (encK k c nt set)[0]? = some (.int .i64 k) := by simp [encK]
theorem encK_1 (k : Int) (c : UInt8) (nt : Bool) (set : List Bool) : (encK k c nt set)[1]? = some (.int .u8 c.toNat) := by simp [encK]
theorem encR_star {k : Nat} (h : k = 1 ∨ k = 2) : encR ⟨k, 0, false, noSet⟩ = encK (krF k) 42 false noSet := by rcases h with rfl | rfl <;> rfl
set_option maxRecDepth 100000 in
set_option maxHeartbeats 20000000 in
theorem refSigns_any (s : ByteArray) (w : World) (hs : s.size ≤ 100) :
    Calls Try.prog 87 #[.string s] w fun e w' => TellR s.data.toList w' e ∧ Below w.heap.size w w' := by
  have HSZ := Lib.hid (show s.data.toList.length = s.size by rw [Array.length_toList]; rfl)
  go_enter Try.func87, Try.ntmps87
  go_wp2_with fail
  go_loopw [4, 5] (fun v a wr => ∃ (i : Nat) (L : List Sg), a = .int .i64 i ∧ i ≤ s.size ∧ L.length ≤ i ∧ (∀ g ∈ L, g.set.length = 256) ∧ patF s.data.toList = (signsF s.data.toList s.data.toList.length i).map (L ++ ·) ∧ wr.ownsRow w.heap.size 105 259 v L.length (encRs L) ∧ Below w.heap.size w wr) (fun _ a _ => s.size - (intOf a).toNat)
  case atStart => exact ⟨0, [], rfl, by omega, by simp, by simp, by unfold patF; simp, World.ownsRow_nil _ _ _ _, Below.refl _ _⟩
  case round =>
    obtain ⟨i, L, rfl, hi, hL, hset, hpat, hown, hb⟩ := hrel
    have HSET := Lib.hid hset
    have HPAT := Lib.hid hpat
    rcases Nat.lt_or_ge i s.size with h | h
    · obtain ⟨c, hc0⟩ : ∃ c, s[i]'h = c := ⟨_, rfl⟩
      have HC := Lib.hid (show s.data.toList[i]? = some c by rw [data_at s i h, hc0])
      have hcb : c.toNat < 256 := UInt8.toNat_lt c
      have HN0 := Lib.hid (rfl : noSet = noSet)
      have hbd := fun w => build_sr_c w c
      have hzv := zero_sr
      have hzl := zeroG_len
      generalize zeroG = Z at *
      have n1 := Blk.new wr 105 Z
      have hbW : Below wr.heap.size wr ((wr.alloc (.cells Z.toArray 105)).setRow wr.heap.size (encK 0 c false noSet).toArray) := below_setRow ((Below.refl _ _).alloc (Nat.le_refl _) _) (Nat.le_refl _) _
      have ow0 := own_below hown hbW
      have bk0 := n1.setRow (encK 0 c false noSet)
      have hbl0 := hb.trans (hbW.mono hb.size)
      have HZS := Lib.hid (size_sr (k := 0) (c := c) (nt := false) noSet_len)
      have HZL := Lib.hid (hzl.trans (encK_len (k := 0) (c := c) (nt := false) noSet_len).symm)
      have HN1 := Lib.hid n1
      have hg0b := hb.size
      have HOWN := Lib.hid (fun (w' : World) (hb : Below wr.heap.size wr w') => own_below hown hb)
      have HBW := Lib.hid hbW
      have BLWW := Lib.hid (fun (w' : World) (hb' : Below wr.heap.size wr w') => hb.trans (hb'.mono hb.size))
      clear hzl n1 hbW
      generalize hg0 : wr.heap.size = g0 at *
      generalize hW0 : (wr.alloc (.cells Z.toArray 105)).setRow g0 (encK 0 c false noSet).toArray = W0 at *
      have HW0 := Lib.hid hW0
      clear hW0
      have OWNW := HOWN
      have BLW := HBW
      have BK0 := Lib.hid bk0
      have OWN0 := Lib.hid ow0
      have BL0 := Lib.hid hbl0
      clear hown hb hset hpat bk0 ow0 hbl0
      have e1 : ((i : Int) + 1).toNat = i + 1 := by omega
      by_cases q92 : c.toNat = 92
      · have e92 : ((c.toNat : Int) == 92) = true := by simp [q92]
        rcases Nat.lt_or_ge (i + 1) s.size with h1 | h1
        · obtain ⟨d, hd0⟩ : ∃ d, s[i + 1]'h1 = d := ⟨_, rfl⟩
          have K := Lib.hid (sig_step HC.out (next92 q92 (show s.data.toList[i + 1]? = some d by rw [data_at s (i + 1) h1, hd0])) HPAT.out)
          have hn2 : ((s.size : Int) ≤ (i : Int) + 1) = False := by simp; omega
          have c1 := BK0.out.cell 1
          rw [encK_1] at c1
          have f1 := BK0.out.frozen 1
          have bk1 := BK0.out.set 1 (.int .u8 d.toNat)
          rw [encK_c] at bk1
          have BK : Hid (Blk (W0.setCell ⟨g0, 1, none⟩ (.int .u8 d.toNat)) g0 105 (encR (lit d))) := Lib.hid bk1
          have BL := Lib.hid (Below.setCell (p := ⟨g0, 1, none⟩) BL0.out hg0b (.int .u8 d.toNat))
          have OWN := Lib.hid (OWNW.out _ ((Below.setCell (p := ⟨g0, 1, none⟩) BLW.out (by simp) (.int .u8 d.toNat))))
          clear q92 bk1
          obtain ⟨v5, w5, hap, hown5, hb5⟩ := rg_step OWN.out BL.out (lit d) noSet_len (by omega) BL.out.size
          have R5 := Lib.hid (And.intro hown5 hb5)
          simp only [World.size_setCell] at hap
          have hz5 := encR_len (g := (lit d)) noSet_len
          have hsz4 := size_encR (g := (lit d)) noSet_len
          generalize encR (lit d) = E5 at *
          have HZ5 := Lib.hid hz5
          have HSZ4 := Lib.hid hsz4
          clear hown5 hb5 hz5 hsz4
          go_wp2_with (first | (refine wpList_val rfl (run_build_op rfl (by simp; rfl) (hbd _)) ?_) | (refine wpList_store_row rfl 105 (.tmp 7) (.tmp 19) rfl g0 _ _ _ rfl rfl HN1.out HZS.out HZL.out (encK_one _ _ _ _) ?_; rw [HW0.out]) | (refine wpList_load_row rfl 105 (.tmp 7) rfl g0 rfl _ _ _ _ BK.out Try.underlying105 rfl HSZ4.out ?_) | (refine wpList_slice1 rfl 101 105 (.tmp 67) rfl _ rfl 259 Try.underlying101 infoR2 HZ5.out (by omega) (by omega) ?_) | (at_builtin; refine halt_in ?_))
          refine Halted.out (wpList_append_run rfl _ _ _ _ rfl rfl rfl hap ?_)
          clear hap
          go_wp2_with fail
          go_roundw
          case rel => exact ⟨i + 2, _, by go_num, by omega, by rw [List.length_append]; simp only [List.length_cons, List.length_nil]; omega, set_snoc HSET.out noSet_len, K.out, R5.out.1, R5.out.2⟩
          case measure => simp [intOf]; omega
        · have KN := Lib.hid (sig_fail HC.out (next92_none q92 (show s.data.toList[i + 1]? = none by rw [at_data, dif_neg (by omega)])) HPAT.out)
          clear q92
          go_wp2_with (first | (refine wpList_val rfl (run_build_op rfl (by simp; rfl) (hbd _)) ?_) | (refine wpList_store_row rfl 105 (.tmp 7) (.tmp 19) rfl g0 _ _ _ rfl rfl HN1.out HZS.out HZL.out (encK_one _ _ _ _) ?_; rw [HW0.out]) | fail)
          go_ret2
          exact ⟨.inr ⟨KN.out, rfl⟩, BL0.out⟩
      have e92 : ((c.toNat : Int) == 92) = false := by simp; omega
      by_cases q63 : c.toNat = 63
      · have e63 : ((c.toNat : Int) == 63) = true := by simp [q63]
        have K := Lib.hid (sig_step HC.out (next63 q63) HPAT.out)
        have c0 := BK0.out.cell 0
        rw [encK_0] at c0
        have f0 := BK0.out.frozen 0
        have bk1 := BK0.out.set 0 (.int .i64 1)
        rw [encK_k, u8_eq q63] at bk1
        have BK : Hid (Blk (W0.setCell ⟨g0, 0, none⟩ (.int .i64 1)) g0 105 (encR ⟨3, 0, false, noSet⟩)) := Lib.hid bk1
        have BL := Lib.hid (Below.setCell (p := ⟨g0, 0, none⟩) BL0.out hg0b (.int .i64 1))
        have OWN := Lib.hid (OWNW.out _ ((Below.setCell (p := ⟨g0, 0, none⟩) BLW.out (by simp) (.int .i64 1))))
        clear q63 q92 bk1
        obtain ⟨v5, w5, hap, hown5, hb5⟩ := rg_step OWN.out BL.out (⟨3, 0, false, noSet⟩ : Sg) noSet_len (by omega) BL.out.size
        have R5 := Lib.hid (And.intro hown5 hb5)
        simp only [World.size_setCell] at hap
        have hz5 := encR_len (g := (⟨3, 0, false, noSet⟩ : Sg)) noSet_len
        have hsz4 := size_encR (g := (⟨3, 0, false, noSet⟩ : Sg)) noSet_len
        generalize encR (⟨3, 0, false, noSet⟩ : Sg) = E5 at *
        have HZ5 := Lib.hid hz5
        have HSZ4 := Lib.hid hsz4
        clear hown5 hb5 hz5 hsz4
        go_wp2_with (first | (refine wpList_val rfl (run_build_op rfl (by simp; rfl) (hbd _)) ?_) | (refine wpList_store_row rfl 105 (.tmp 7) (.tmp 19) rfl g0 _ _ _ rfl rfl HN1.out HZS.out HZL.out (encK_one _ _ _ _) ?_; rw [HW0.out]) | (refine wpList_load_row rfl 105 (.tmp 7) rfl g0 rfl _ _ _ _ BK.out Try.underlying105 rfl HSZ4.out ?_) | (refine wpList_slice1 rfl 101 105 (.tmp 67) rfl _ rfl 259 Try.underlying101 infoR2 HZ5.out (by omega) (by omega) ?_) | (at_builtin; refine halt_in ?_))
        refine Halted.out (wpList_append_run rfl _ _ _ _ rfl rfl rfl hap ?_)
        clear hap
        go_wp2_with fail
        go_roundw
        case rel => exact ⟨i + 1, _, by go_num, by omega, by rw [List.length_append]; simp only [List.length_cons, List.length_nil]; omega, set_snoc HSET.out noSet_len, K.out, R5.out.1, R5.out.2⟩
        case measure => simp [intOf]; omega
      have e63 : ((c.toNat : Int) == 63) = false := by simp; omega
      by_cases q42 : c.toNat = 42
      · have e42 : ((c.toNat : Int) == 42) = true := by simp [q42]
        have Q42 := Lib.hid q42
        have hc42 := u8_eq q42
        have c0 := BK0.out.cell 0
        rw [encK_0] at c0
        have f0 := BK0.out.frozen 0
        have bk1 := BK0.out.set 0 (.int .i64 2)
        rw [encK_k, hc42] at bk1
        have BK1 := Lib.hid bk1
        have BL1 := Lib.hid (Below.setCell (p := ⟨g0, 0, none⟩) BLW.out (by simp) (.int .i64 2))
        clear q42 q63 q92 bk1 hc42
        go_wp2_with (first | (refine wpList_val rfl (run_build_op rfl (by simp; rfl) (hbd _)) ?_) | (refine wpList_store_row rfl 105 (.tmp 7) (.tmp 19) rfl g0 _ _ _ rfl rfl HN1.out HZS.out HZL.out (encK_one _ _ _ _) ?_; rw [HW0.out]) | fail)
        clear c0 f0 hbd hzv e92 e63 e42
        have e91 : ((c.toNat : Int) == 91) = false := by have := Q42.out; simp; omega
        go_loopw [5] (fun a wq => ∃ j : Nat, a = .int .i64 j ∧ i + 1 ≤ j ∧ j ≤ s.size ∧ starF s.data.toList s.data.toList.length j = starF s.data.toList s.data.toList.length (i + 1) ∧ Blk wq g0 105 (encK (krF (if i + 1 < j then 1 else 2)) 42 false noSet) ∧ Below g0 wr wq) (fun a _ => s.size - (intOf a).toNat)
        case atStart => exact ⟨i + 1, by go_num, Nat.le_refl _, h, rfl, by rw [if_neg (by omega)]; exact BK1.out, BL1.out⟩
        case round =>
          obtain ⟨j, rfl, hj1, hj2, hst, hbk, hbl⟩ := hrel
          have HST := Lib.hid hst
          have BKJ := Lib.hid hbk
          have BLJ := Lib.hid hbl
          clear hst hbk hbl
          have hjt : ((j : Int)).toNat = j := by omega
          by_cases g1 : j < s.size ∧ s.data.toList[j]? = some 42
          · obtain ⟨g1, g2⟩ := g1
            have e4 : (((s[j]'g1).toNat : Int) == 42) = true := by
              rw [data_at s j g1] at g2
              rw [Option.some.inj g2]; rfl
            have K := Lib.hid (starF_step (f := s.data.toList.length) g2 (by omega))
            have c0 := BKJ.out.cell 0
            rw [encK_0] at c0
            have f0 := BKJ.out.frozen 0
            have bk2 := BKJ.out.set 0 (.int .i64 3)
            rw [encK_k] at bk2
            have BK2 := Lib.hid bk2
            have BL2 := Lib.hid (Below.setCell (p := ⟨g0, 0, none⟩) BLJ.out (by simp) (.int .i64 3))
            clear g2 bk2
            go_wp2_with fail
            go_roundw
            case rel => exact ⟨j + 1, by go_num, by omega, by omega, by rw [← HST.out, K.out], by rw [if_pos (by omega)]; exact BK2.out, BL2.out⟩
            case measure => simp [intOf]; omega
          · have KE : Hid (starF s.data.toList s.data.toList.length (i + 1) = j) := Lib.hid (by
              rw [← HST.out]
              refine starF_end fun e => g1 ⟨?_, e⟩
              have := (List.getElem?_eq_some_iff.1 e).1
              rw [HSZ.out] at this; exact this)
            have HG1 := Lib.hid g1
            clear g1
            have K := Lib.hid (sig_step HC.out (next42 Q42.out KE.out) HPAT.out)
            have BK : Hid (Blk wr g0 105 (encR (⟨if i + 1 < j then 1 else 2, 0, false, noSet⟩ : Sg))) := Lib.hid (by rw [encR_star (k := if i + 1 < j then 1 else 2) (by split <;> simp)]; exact BKJ.out)
            have OWN := Lib.hid (OWNW.out _ BLJ.out)
            have BL := Lib.hid (BLWW.out _ BLJ.out)
            rcases Nat.lt_or_ge j s.size with g1 | g1
            · have e4 : (((s[j]'g1).toNat : Int) == 42) = false := by
                have : (s[j]'g1).toNat ≠ 42 := fun e => HG1.out ⟨g1, by rw [data_at s j g1]; exact congrArg some (UInt8.toNat_inj.1 (by rw [e]; rfl))⟩
                simp; omega
              obtain ⟨v5, w5, hap, hown5, hb5⟩ := rg_step OWN.out BL.out (⟨if i + 1 < j then 1 else 2, 0, false, noSet⟩ : Sg) noSet_len (by omega) BL.out.size
              have R5 := Lib.hid (And.intro hown5 hb5)
              have hz5 := encR_len (g := (⟨if i + 1 < j then 1 else 2, 0, false, noSet⟩ : Sg)) noSet_len
              have hsz4 := size_encR (g := (⟨if i + 1 < j then 1 else 2, 0, false, noSet⟩ : Sg)) noSet_len
              generalize encR (⟨if i + 1 < j then 1 else 2, 0, false, noSet⟩ : Sg) = E5 at *
              have HZ5 := Lib.hid hz5
              have HSZ4 := Lib.hid hsz4
              clear hown5 hb5 hz5 hsz4
              go_wp2_with (first | (refine wpList_load_row rfl 105 (.tmp 7) rfl g0 rfl _ _ _ _ BK.out Try.underlying105 rfl HSZ4.out ?_) | (refine wpList_slice1 rfl 101 105 (.tmp 67) rfl _ rfl 259 Try.underlying101 infoR2 HZ5.out (by omega) (by omega) ?_) | (at_builtin; refine halt_in ?_))
              refine Halted.out (wpList_append_run rfl _ _ _ _ rfl rfl rfl hap ?_)
              clear hap
              go_wp2_with fail
              go_roundw
              case rel => exact ⟨j, _, by go_num, by omega, by rw [List.length_append]; simp only [List.length_cons, List.length_nil]; omega, set_snoc HSET.out noSet_len, K.out, R5.out.1, R5.out.2⟩
              case measure => simp [intOf]; omega
            · have g6 : ¬ (j : Int) < s.size := by omega
              obtain ⟨v5, w5, hap, hown5, hb5⟩ := rg_step OWN.out BL.out (⟨if i + 1 < j then 1 else 2, 0, false, noSet⟩ : Sg) noSet_len (by omega) BL.out.size
              have R5 := Lib.hid (And.intro hown5 hb5)
              have hz5 := encR_len (g := (⟨if i + 1 < j then 1 else 2, 0, false, noSet⟩ : Sg)) noSet_len
              have hsz4 := size_encR (g := (⟨if i + 1 < j then 1 else 2, 0, false, noSet⟩ : Sg)) noSet_len
              generalize encR (⟨if i + 1 < j then 1 else 2, 0, false, noSet⟩ : Sg) = E5 at *
              have HZ5 := Lib.hid hz5
              have HSZ4 := Lib.hid hsz4
              clear hown5 hb5 hz5 hsz4
              go_wp2_with (first | (refine wpList_load_row rfl 105 (.tmp 7) rfl g0 rfl _ _ _ _ BK.out Try.underlying105 rfl HSZ4.out ?_) | (refine wpList_slice1 rfl 101 105 (.tmp 67) rfl _ rfl 259 Try.underlying101 infoR2 HZ5.out (by omega) (by omega) ?_) | (at_builtin; refine halt_in ?_))
              refine Halted.out (wpList_append_run rfl _ _ _ _ rfl rfl rfl hap ?_)
              clear hap
              go_wp2_with fail
              go_roundw
              case rel => exact ⟨j, _, by go_num, by omega, by rw [List.length_append]; simp only [List.length_cons, List.length_nil]; omega, set_snoc HSET.out noSet_len, K.out, R5.out.1, R5.out.2⟩
              case measure => simp [intOf]; omega
      have e42 : ((c.toNat : Int) == 42) = false := by simp; omega
      by_cases q91 : c.toNat = 91
      · have e91 : ((c.toNat : Int) == 91) = true := by simp [q91]
        have hCA : Calls Try.prog 90 #[.string s, .int .i64 ((i : Int) + 1)] W0 fun e w' => TellC s.data.toList (i + 1) e ∧ Below W0.heap.size W0 w' := by
          have := refClass_any s (i + 1) W0 (by omega) (by omega)
          rwa [show ((i + 1 : Nat) : Int) = (i : Int) + 1 by omega] at this
        have HCA := Lib.hid hCA
        have K91 := Lib.hid (next91 (p := s.data.toList) (i := i) q91)
        clear hCA q42 q63 q91 q92
        go_wp2_with (first | (refine wpList_val rfl (run_build_op rfl (by simp; rfl) (hbd _)) ?_) | (refine wpList_store_row rfl 105 (.tmp 7) (.tmp 19) rfl g0 _ _ _ rfl rfl HN1.out HZS.out HZL.out (encK_one _ _ _ _) ?_; rw [HW0.out]) | fail)
        refine HCA.out.mono ?_
        rintro e w1 ⟨hTC, hb1⟩
        obtain ⟨nt, st, j, b, rfl, hst, ht, hf⟩ := hTC
        have hlt0 := BK0.out.lt
        have hlt1 : g0 < w1.heap.size := Nat.lt_of_lt_of_le hlt0 hb1.size
        have n1 := Blk.new w1 105 Z
        have hbW : Below w1.heap.size w1 ((w1.alloc (.cells Z.toArray 105)).setRow w1.heap.size (encK 4 0 nt st).toArray) := below_setRow ((Below.refl _ _).alloc (Nat.le_refl _) _) (Nat.le_refl _) _
        have blk2 := n1.setRow (encK 4 0 nt st)
        have bg0 := (BK0.out.below hb1).below hbW
        have bl2 := BLW.out.trans ((hb1.trans (hbW.mono hb1.size)).mono (Nat.le_of_lt BK0.out.lt))
        have bg1 := bg0.setRow (encK 4 0 nt st)
        have bl3 := below_setRow bl2 (Nat.le_refl _) (encK 4 0 nt st).toArray
        have HSZ4 := Lib.hid (size_sr (k := 4) (c := 0) (nt := nt) hst)
        have HZ4 := Lib.hid (show Z.length = (encK 4 0 nt st).length by rw [HZL.out, encK_len noSet_len, encK_len hst])
        have HZ0 := Lib.hid (show (encK 0 c false noSet).length = (encK 4 0 nt st).length by rw [encK_len noSet_len, encK_len hst])
        have N1 := Lib.hid n1
        have HHF := Lib.hid hf
        cases b with
        | false =>
          have KN := Lib.hid (sig_fail HC.out (by rw [K91.out]; exact HHF.out rfl) HPAT.out)
          have HB2 := Lib.hid (BLWW.out _ bl2)
          clear ht hf hb1 n1 hbW blk2 bg0 bl2 bg1 bl3
          go_wp2_with (refine wpList_store_row rfl 105 (.tmp 8) (.tmp 59) rfl w1.heap.size _ _ _ rfl rfl N1.out HSZ4.out HZ4.out (encK_one _ _ _ _) ?_)
          go_ret2
          exact ⟨.inr ⟨KN.out, rfl⟩, HB2.out⟩
        | true =>
          obtain ⟨n, rfl, hcl⟩ := ht rfl
          have hle := classF_le hcl (by rw [HSZ.out]; omega)
          rw [HSZ.out] at hle
          obtain ⟨hn1, hn2, _, _, _⟩ := hle
          have K := Lib.hid (sig_step HC.out (by rw [K91.out]; exact hcl) HPAT.out)
          have BK2 := Lib.hid blk2
          have BG0 := Lib.hid bg0
          generalize hwx : ((w1.alloc (.cells Z.toArray 105)).setRow w1.heap.size (encK 4 0 nt st).toArray).setRow g0 (encK 4 0 nt st).toArray = wx at *
          have HWX := Lib.hid hwx
          have BK : Hid (Blk wx g0 105 (encR (⟨4, 0, nt, st⟩ : Sg))) := Lib.hid bg1
          have OWN := Lib.hid (OWNW.out _ bl3)
          have BL := Lib.hid (BLWW.out _ bl3)
          clear ht hf hb1 n1 hbW blk2 bg0 bl2 bg1 bl3 hwx hcl HHF
          obtain ⟨v5, w5, hap, hown5, hb5⟩ := rg_step OWN.out BL.out (⟨4, 0, nt, st⟩ : Sg) hst (by omega) BL.out.size
          have R5 := Lib.hid (And.intro hown5 hb5)
          have hz5 := encR_len (g := (⟨4, 0, nt, st⟩ : Sg)) hst
          have hsz4 := size_encR (g := (⟨4, 0, nt, st⟩ : Sg)) hst
          generalize encR (⟨4, 0, nt, st⟩ : Sg) = E5 at *
          have HZ5 := Lib.hid hz5
          have HSZ5 := Lib.hid hsz4
          clear hown5 hb5 hz5 hsz4
          go_wp2_with (first | (refine wpList_store_row rfl 105 (.tmp 8) (.tmp 59) rfl w1.heap.size _ _ _ rfl rfl N1.out HSZ4.out HZ4.out (encK_one _ _ _ _) ?_) | (refine wpList_load_row rfl 105 (.tmp 8) rfl w1.heap.size rfl _ _ _ _ BK2.out Try.underlying105 rfl HSZ4.out ?_) | (refine wpList_store_row rfl 105 (.tmp 7) (.tmp 64) rfl g0 _ _ _ rfl rfl BG0.out HSZ4.out HZ0.out (encK_one _ _ _ _) ?_; rw [HWX.out]) | (refine wpList_load_row rfl 105 (.tmp 7) rfl g0 rfl _ _ _ _ BK.out Try.underlying105 rfl HSZ5.out ?_) | (refine wpList_slice1 rfl 101 105 (.tmp 67) rfl _ rfl 259 Try.underlying101 infoR2 HZ5.out (by omega) (by omega) ?_) | (at_builtin; refine halt_in ?_))
          refine Halted.out (wpList_append_run rfl _ _ _ _ rfl rfl rfl hap ?_)
          clear hap
          go_wp2_with fail
          go_roundw
          case rel => exact ⟨n, _, by go_num, by omega, by rw [List.length_append]; simp only [List.length_cons, List.length_nil]; omega, set_snoc HSET.out hst, K.out, R5.out.1, R5.out.2⟩
          case measure => simp [intOf]; omega
      have e91 : ((c.toNat : Int) == 91) = false := by simp; omega
      have K := Lib.hid (sig_step HC.out (nextLit q42 q63 q91 q92) HPAT.out)
      clear e1
      have BK : Hid (Blk W0 g0 105 (encR (lit c))) := BK0
      have OWN := OWN0
      have BL := BL0
      clear q42 q63 q91 q92
      obtain ⟨v5, w5, hap, hown5, hb5⟩ := rg_step OWN.out BL.out (lit c) noSet_len (by omega) BL.out.size
      have R5 := Lib.hid (And.intro hown5 hb5)
      have hz5 := encR_len (g := (lit c)) noSet_len
      have hsz4 := size_encR (g := (lit c)) noSet_len
      generalize encR (lit c) = E5 at *
      have HZ5 := Lib.hid hz5
      have HSZ4 := Lib.hid hsz4
      clear hown5 hb5 hz5 hsz4
      go_wp2_with (first | (refine wpList_val rfl (run_build_op rfl (by simp; rfl) (hbd _)) ?_) | (refine wpList_store_row rfl 105 (.tmp 7) (.tmp 19) rfl g0 _ _ _ rfl rfl HN1.out HZS.out HZL.out (encK_one _ _ _ _) ?_; rw [HW0.out]) | (refine wpList_load_row rfl 105 (.tmp 7) rfl g0 rfl _ _ _ _ BK.out Try.underlying105 rfl HSZ4.out ?_) | (refine wpList_slice1 rfl 101 105 (.tmp 67) rfl _ rfl 259 Try.underlying101 infoR2 HZ5.out (by omega) (by omega) ?_) | (at_builtin; refine halt_in ?_))
      refine Halted.out (wpList_append_run rfl _ _ _ _ rfl rfl rfl hap ?_)
      clear hap
      go_wp2_with fail
      go_roundw
      case rel => exact ⟨i + 1, _, by go_num, by omega, by rw [List.length_append]; simp only [List.length_cons, List.length_nil]; omega, set_snoc HSET.out noSet_len, K.out, R5.out.1, R5.out.2⟩
      case measure => simp [intOf]; omega
    · have KE := Lib.hid (sig_end (by rw [HSZ.out]; omega) HPAT.out)
      have hown0 := hown
      obtain ⟨Af, cf, rfl, hcf, hslf, hbf, _⟩ := own_sl hown
      have R := Lib.hid (And.intro (And.intro (fun a ha => (hown0.lt _ (hbf a ha).2).2) hslf) hb)
      clear hown0 hbf
      clear hown hb hset hpat hslf
      go_wp2_with fail
      go_ret2
      exact ⟨.inl ⟨L, Af, cf, rfl, KE.out, by omega, HSET.out, R.out.1.1, R.out.1.2⟩, R.out.2⟩
end Go.Proofs.Ytcagonpnjionhaa

/-! Does a sign take a byte? The document's. -/
set_option linter.unusedVariables false
set_option linter.unusedSimpArgs false
namespace Go.Proofs.Ytcagonpnjionhaa
open Go.RowKit

set_option maxRecDepth 100000 in
set_option maxHeartbeats 4000000 in
theorem refTakes_any (g : Sg) (c : UInt8) (w : World) (hg : g.set.length = 256) :
    Calls Try.prog 88 #[.agg (encR g).toArray, .int .u8 c.toNat] w fun e w' => e = .returned (.bool (takesF g c)) ∧ Below w.heap.size w w' := by
  have hcb : c.toNat < 256 := UInt8.toNat_lt c
  have n0 := Blk.new w 105 (encR g)
  have hb0 : Below w.heap.size w (w.alloc (.cells (encR g).toArray 105)) := (Below.refl _ _).alloc (Nat.le_refl _) _
  have c0 := n0.cell 0
  have c1 := n0.cell 1
  have c2 := n0.cell 2
  have c3 := n0.cell (3 + c.toNat)
  have s3 : (encR g)[3 + c.toNat]? = some (.bool (g.set[c.toNat]?.getD false)) := encK_at (by omega)
  rw [s3] at c3
  rw [show (encR g)[0]? = some (.int .i64 (krF g.k)) from rfl] at c0
  rw [show (encR g)[1]? = some (.int .u8 (crF g).toNat) from rfl] at c1
  rw [show (encR g)[2]? = some (.bool g.nt) from rfl] at c2
  have HB0 := Lib.hid hb0
  clear s3 n0 hb0
  generalize encR g = E at *
  go_enter Try.func88, Try.ntmps88
  by_cases h0 : g.k = 0
  · have q0 : ((krF g.k : Int) == 0) = true := by rw [h0]; rfl
    have KC := Lib.hid (show crF g = g.c by unfold crF; rw [if_neg (by omega), if_neg (by omega)])
    have KF := Lib.hid (show takesF g c = (c == g.c) by unfold takesF; rw [if_pos h0])
    rw [KC.out] at c1
    by_cases hc : c = g.c
    · have K := Lib.hid (show takesF g c = true by rw [KF.out, hc]; simp)
      subst hc
      clear h0
      go_wp2_with fail
      go_ret
      exact ⟨by rw [K.out]; rfl, HB0.out⟩
    · have K := Lib.hid (show takesF g c = false by rw [KF.out]; simpa using hc)
      have q5 : ((g.c.toNat : Int) == c.toNat) = false := by
        have : g.c.toNat ≠ c.toNat := fun e => hc (UInt8.toNat_inj.1 e.symm)
        simp; omega
      clear h0 hc
      go_wp2_with fail
      go_ret
      exact ⟨by rw [K.out]; rfl, HB0.out⟩
  have k0 : krF g.k ≠ 0 := by unfold krF; split <;> (try split) <;> omega
  have q0 : ((krF g.k : Int) == 0) = false := by simp; omega
  by_cases h1 : g.k = 1
  · have q1 : ((krF g.k : Int) == 3) = true := by rw [h1]; rfl
    have K := Lib.hid (show takesF g c = true by unfold takesF; rw [if_neg h0, if_pos h1])
    clear h0 h1 k0
    go_wp2_with fail
    go_ret
    exact ⟨by rw [K.out]; rfl, HB0.out⟩
  have k1 : krF g.k ≠ 3 := by unfold krF; split <;> (try split) <;> omega
  have q1 : ((krF g.k : Int) == 3) = false := by simp; omega
  by_cases h4 : g.k = 4
  · have q4 : ((krF g.k : Int) == 4) = true := by rw [h4]; rfl
    have KF := Lib.hid (show takesF g c = (c != 47 && (g.set[c.toNat]?.getD false != g.nt)) by unfold takesF; rw [if_neg h0, if_neg h1, if_pos h4])
    generalize g.set[c.toNat]?.getD false = m at *
    by_cases hc : c = 47
    · have K := Lib.hid (show takesF g c = false by rw [KF.out, hc]; rfl)
      have q5 : ((c.toNat : Int) != 47) = false := by rw [hc]; rfl
      clear h0 h1 h4 hc k0 k1
      go_wp2_with fail
      go_quiet (fail)
      go_wp2_with fail
      go_ret
      exact ⟨by rw [K.out]; rfl, below_drewN HB0.out _⟩
    · have hcc : (c != 47) = true := by simpa using hc
      have K := Lib.hid (show takesF g c = (m != g.nt) by rw [KF.out, hcc]; simp)
      clear hcc
      have q5 : ((c.toNat : Int) != 47) = true := by
        have : c.toNat ≠ 47 := fun e => hc (UInt8.toNat_inj.1 (by rw [e]; rfl))
        simp; omega
      clear h0 h1 h4 hc k0 k1
      generalize g.nt = t at *
      cases m <;> cases t <;>
        (go_wp2_with fail
         go_quiet (fail)
         go_wp2_with fail
         go_ret
         exact ⟨by rw [K.out]; rfl, below_drewN HB0.out _⟩)
  have k4 : krF g.k ≠ 4 := by unfold krF; split <;> (try split) <;> omega
  have q4 : ((krF g.k : Int) == 4) = false := by simp; omega
  have KF := Lib.hid (show takesF g c = (c != 47) by unfold takesF; rw [if_neg h0, if_neg h1, if_neg h4])
  by_cases hc : c = 47
  · have K := Lib.hid (show takesF g c = false by rw [KF.out, hc]; rfl)
    have q5 : ((c.toNat : Int) != 47) = false := by rw [hc]; rfl
    clear h0 h1 h4 hc k0 k1
    go_wp2_with fail
    go_ret
    exact ⟨by rw [K.out]; rfl, HB0.out⟩
  · have K := Lib.hid (show takesF g c = true by rw [KF.out]; simpa using hc)
    have q5 : ((c.toNat : Int) != 47) = true := by
      have : c.toNat ≠ 47 := fun e => hc (UInt8.toNat_inj.1 (by rw [e]; rfl))
      simp; omega
    clear h0 h1 h4 hc k0 k1
    go_wp2_with fail
    go_ret
    exact ⟨by rw [K.out]; rfl, HB0.out⟩
end Go.Proofs.Ytcagonpnjionhaa

/-! Check: the program's and the document's. -/
set_option linter.unusedVariables false
set_option linter.unusedSimpArgs false
namespace Go.Proofs.Ytcagonpnjionhaa
open Go.RowKit

def chkF (p : ByteArray) : Int := if 100 < p.size then 7 else if (patF p.data.toList).isSome then 0 else 5
theorem check_any (p : ByteArray) (w : World) (hp : p.size ≤ 140737488355328) :
    Calls Try.prog 67 #[.string p] w fun e w' => e = .returned (.int .i64 (chkF p)) ∧ Below w.heap.size w w' := by
  have HSZ := Lib.hid (show p.data.toList.length = p.size by rw [Array.length_toList]; rfl)
  go_enter Try.func67, Try.ntmps67
  rcases Nat.lt_or_ge 100 p.size with h | h
  · have K := Lib.hid (show chkF p = 7 by unfold chkF; rw [if_pos h])
    go_wp2_with fail
    go_ret
    exact ⟨by rw [K.out]; rfl, Below.refl _ _⟩
  · have hi : ¬ (100 : Int) < p.size := by omega
    have KC := Lib.hid (show chkF p = if (patF p.data.toList).isSome then 0 else 5 by unfold chkF; rw [if_neg (by omega)])
    go_wp2_with fail
    refine (signs_any p w hp).mono ?_
    rintro e w1 ⟨hT, hb⟩
    have HB := Lib.hid hb
    rcases hT with ⟨_, L, A, c, rfl, hpat, _, _, _, _⟩ | ⟨hno, rfl⟩
    · have K := Lib.hid (show chkF p = 0 by rw [KC.out, hpat]; rfl)
      clear hpat hb
      go_wp2_with fail
      go_ret
      exact ⟨by rw [K.out]; rfl, HB.out⟩
    · have K := Lib.hid (show chkF p = 5 by
        rcases hno with h1 | h1
        · rw [HSZ.out] at h1; omega
        · rw [KC.out, h1]; rfl)
      clear hno hb
      go_wp2_with fail
      go_ret
      exact ⟨by rw [K.out]; rfl, HB.out⟩
theorem refGlobCheck_any (p : ByteArray) (w : World) (hp : p.size ≤ 140737488355328) :
    Calls Try.prog 86 #[.string p] w fun e w' => e = .returned (.int .i64 (chkF p)) ∧ Below w.heap.size w w' := by
  have HSZ := Lib.hid (show p.data.toList.length = p.size by rw [Array.length_toList]; rfl)
  go_enter Try.func86, Try.ntmps86
  rcases Nat.lt_or_ge 100 p.size with h | h
  · have K := Lib.hid (show chkF p = 7 by unfold chkF; rw [if_pos h])
    go_wp2_with fail
    go_ret
    exact ⟨by rw [K.out]; rfl, Below.refl _ _⟩
  · have hi : ¬ (100 : Int) < p.size := by omega
    have KC := Lib.hid (show chkF p = if (patF p.data.toList).isSome then 0 else 5 by unfold chkF; rw [if_neg (by omega)])
    go_wp2_with fail
    refine (refSigns_any p w h).mono ?_
    rintro e w1 ⟨hT, hb⟩
    have HB := Lib.hid hb
    rcases hT with ⟨L, A, c, rfl, hpat, _, _, _, _⟩ | ⟨hno, rfl⟩
    · have K := Lib.hid (show chkF p = 0 by rw [KC.out, hpat]; rfl)
      clear hpat hb
      go_wp2_with fail
      go_ret
      exact ⟨by rw [K.out]; rfl, HB.out⟩
    · have K := Lib.hid (show chkF p = 5 by rw [KC.out, hno]; rfl)
      clear hno hb
      go_wp2_with fail
      go_ret
      exact ⟨by rw [K.out]; rfl, HB.out⟩
end Go.Proofs.Ytcagonpnjionhaa

/-! The document's Match. -/
set_option linter.unusedVariables false
set_option linter.unusedSimpArgs false
namespace Go.Proofs.Ytcagonpnjionhaa
open Go.RowKit

def trow (L : List Sg) (s : List UInt8) (k : Nat) : List Bool := (List.range (s.length + 1)).map (tab L s k)
def tpar (L : List Sg) (s : List UInt8) (k j : Nat) : List Bool := (List.range (s.length + 1)).map fun x => decide (x < j) && tab L s k x
theorem trow_len (L : List Sg) (s : List UInt8) (k : Nat) : (trow L s k).length = s.length + 1 := by simp [trow]
theorem tpar_len (L : List Sg) (s : List UInt8) (k j : Nat) : (tpar L s k j).length = s.length + 1 := by simp [tpar]
theorem trow_at {L : List Sg} {s : List UInt8} {k x : Nat} (h : x ≤ s.length) : (trow L s k)[x]?.getD false = tab L s k x := by
  unfold trow; rw [List.getElem?_map, List.getElem?_range (by omega)]; rfl
theorem tpar_at {L : List Sg} {s : List UInt8} {k j x : Nat} (h : x ≤ s.length) : (tpar L s k j)[x]?.getD false = (decide (x < j) && tab L s k x) := by
  unfold tpar; rw [List.getElem?_map, List.getElem?_range (by omega)]; rfl
theorem tpar_zero (L : List Sg) (s : List UInt8) (k : Nat) : tpar L s k 0 = List.replicate (s.length + 1) false := by
  refine bools_ext (n := s.length + 1) (tpar_len _ _ _ _) (by simp) fun x hx => ?_
  rw [tpar_at (by omega), List.getElem?_replicate, if_pos hx]; simp
theorem tpar_full (L : List Sg) (s : List UInt8) (k : Nat) : tpar L s k (s.length + 1) = trow L s k := by
  refine bools_ext (n := s.length + 1) (tpar_len _ _ _ _) (trow_len _ _ _) fun x hx => ?_
  rw [tpar_at (by omega), trow_at (by omega), decide_eq_true hx]; rfl
theorem tpar_set (L : List Sg) (s : List UInt8) (k : Nat) {j : Nat} {v : Bool} (h : j ≤ s.length) (hv : tab L s k j = v) : (tpar L s k j).set j v = tpar L s k (j + 1) := by
  refine bools_ext (n := s.length + 1) (by rw [List.length_set, tpar_len]) (tpar_len _ _ _ _) fun x hx => ?_
  rw [tpar_at (by omega), List.getElem?_set]
  by_cases hj : j = x
  · subst hj; rw [if_pos rfl, if_pos (by rw [tpar_len]; omega), hv, decide_eq_true (by omega)]; simp
  · rw [if_neg hj, tpar_at (by omega)]
    congr 1
    by_cases h1 : x < j
    · rw [decide_eq_true h1, decide_eq_true (by omega)]
    · rw [decide_eq_false h1, decide_eq_false (by omega)]
theorem trow_zero (L : List Sg) (s : List UInt8) : trow L s 0 = true :: List.replicate s.length false := by
  refine bools_ext (n := s.length + 1) (trow_len _ _ _) (by simp) fun x hx => ?_
  rw [trow_at (by omega)]
  cases x with
  | zero => simp [tab]
  | succ x => rw [tab, List.getElem?_cons_succ, List.getElem?_replicate]; split <;> rfl
theorem tab_s0 {L : List Sg} {s : List UInt8} {k : Nat} {x : Sg} (hx : sgAt L k = x) : tab L s (k + 1) 0 = (starG x && tab L s k 0) := by rw [tab, hx]
theorem tab_s1 {L : List Sg} {s : List UInt8} {k j : Nat} {x : Sg} {c : UInt8} (hx : sgAt L k = x) (hc : s[j]?.getD 0 = c) : tab L s (k + 1) (j + 1) = if starG x then tab L s k (j + 1) || (tab L s (k + 1) j && takesF x c) else tab L s k j && takesF x c := by rw [tab, hx, hc]
theorem tab_star_t {L : List Sg} {s : List UInt8} {k j : Nat} {x : Sg} (hx : sgAt L k = x) (hg : starG x = true) (h : tab L s k j = true) : tab L s (k + 1) j = true := by
  cases j with
  | zero => rw [tab, hx, hg, h]; rfl
  | succ j => rw [tab, hx, if_pos hg, h]; rfl
theorem tab_star_0 {L : List Sg} {s : List UInt8} {k : Nat} {x : Sg} (hx : sgAt L k = x) (h : tab L s k 0 = false) : tab L s (k + 1) 0 = false := by rw [tab, hx, h]; simp
theorem tab_star_s {L : List Sg} {s : List UInt8} {k j : Nat} {x : Sg} {c : UInt8} (hx : sgAt L k = x) (hg : starG x = true) (h : tab L s k (j + 1) = false) (hc : s[j]?.getD 0 = c) : tab L s (k + 1) (j + 1) = (tab L s (k + 1) j && takesF x c) := by rw [tab, hx, if_pos hg, h, hc]; rfl
theorem tab_no_0 {L : List Sg} {s : List UInt8} {k : Nat} {x : Sg} (hx : sgAt L k = x) (hg : starG x = false) : tab L s (k + 1) 0 = false := by rw [tab, hx, hg]; rfl
theorem tab_no_s {L : List Sg} {s : List UInt8} {k j : Nat} {x : Sg} {c : UInt8} (hx : sgAt L k = x) (hg : starG x = false) (hc : s[j]?.getD 0 = c) : tab L s (k + 1) (j + 1) = (tab L s k j && takesF x c) := by rw [tab, hx, if_neg (by rw [hg]; decide), hc]
theorem cell_other {w : World} {g j j' : Nat} (v : Value) (h : j' ≠ j) : (w.setCell ⟨g, j', none⟩ v).cell? ⟨g, j, none⟩ = w.cell? ⟨g, j, none⟩ := World.cell?_setCell_other _ _ _ _ (fun e => h (by cases e; rfl))
theorem run_load_op {P : Program} {op : Oper} {a : Act} {w : World} (ty : TypeId) (x : Operand) (ho : op.op = .load ty x)
    (b o : Nat) (hx : a.eval x = .pointer (some ⟨b, o, none⟩)) (cs : List Value) (d : TypeDesc) (hS : w.rangeAt b o cs)
    (hu : P.underlying ty = some d) (hd : d.isRow = true) (hi : (P.info? ty).map (·.size) = some cs.length) : (execOp a.eval op).run P w = .ok (.value (.agg cs.toArray)) w := by
  unfold execOp
  simp only [ho, hx, Instr.loadAt, Instr.sureAddr, Sem.run_bind, Sem.run_pure, Result.andThen_ok, run_loadVar_mid w b o ty cs d hS hu hd hi]
theorem cell_below {w w' : World} {a : Addr} {v : Value} (h : w.cell? a = some v) (hb : Below w.heap.size w w') : w'.cell? a = some v := by rw [← h]; unfold World.cell?; rw [hb.block _ (block_lt_of_cell h)]
theorem gb {w w' : World} (h : Below w.heap.size w w') (r : Option Nat) : w.grownBy w' r := ⟨h.os, h.tape, h.output, h.size, fun k hk _ => h.block k hk⟩
theorem encRs_at : ∀ {L : List Sg} (_ : ∀ g ∈ L, g.set.length = 256) {i : Nat} {x : Sg}, L[i]? = some x → ∀ j v, (encR x)[j]? = some v → (encRs L)[i * 259 + j]? = some v
  | [], _, _, _, h, _, _, _ => by simp at h
  | y :: L, hs, 0, x, h, j, v, hv => by
    simp only [List.getElem?_cons_zero, Option.some.injEq] at h
    subst h
    show (encR y ++ encRs L)[0 * 259 + j]? = _
    rw [Nat.zero_mul, Nat.zero_add, List.getElem?_append_left (List.getElem?_eq_some_iff.1 hv).1]
    exact hv
  | y :: L, hs, i+1, x, h, j, v, hv => by
    simp only [List.getElem?_cons_succ] at h
    show (encR y ++ encRs L)[(i + 1) * 259 + j]? = _
    have hl := encR_len (hs y List.mem_cons_self)
    rw [List.getElem?_append_right (by omega), hl, show (i + 1) * 259 + j - 259 = i * 259 + j by omega]
    exact encRs_at (fun g hg => hs g (List.mem_cons_of_mem _ hg)) h j v hv
theorem encRs_len {L : List Sg} (hs : ∀ g ∈ L, g.set.length = 256) : (encRs L).length = L.length * 259 := by
  induction L with
  | nil => rfl
  | cons y L ih =>
    show (encR y ++ encRs L).length = _
    rw [List.length_append, encR_len (hs y List.mem_cons_self), ih (fun g hg => hs g (List.mem_cons_of_mem _ hg)), List.length_cons]; omega
theorem Sl.srRow {w : World} {A : Option Addr} {n : Nat} {L : List Sg} (h : Sl 259 w A n (encRs L)) (hs : ∀ g ∈ L, g.set.length = 256) {i : Nat} (hi : i < n) :
    ∃ (b o : Nat) (x : Sg), A = some ⟨b, o, none⟩ ∧ L[i]? = some x ∧ SgAt w b (o + i * 259) (encR x) := by
  have hl : L.length = n := by have := h.len; rw [encRs_len hs] at this; omega
  have hx : L[i]? = some (L[i]'(by omega)) := List.getElem?_eq_getElem (by omega)
  rcases h.at_ with h0 | ⟨b, o, rfl, hc⟩
  · have : (encRs L).length = 0 := by rw [h0]; rfl
    rw [encRs_len hs] at this; omega
  · exact ⟨b, o, _, rfl, hx, fun j v hv => by have := hc _ v (encRs_at hs hx j v hv); rwa [← Nat.add_assoc] at this⟩
theorem SgAt.grown {w w' : World} {b o : Nat} {cs : List Value} (h : SgAt w b o cs) {g : Nat} (hg : w.grownBy w' (some g)) (hb : b < w.heap.size) (hne : b ≠ g) : SgAt w' b o cs :=
  fun j v hj => by rw [← h j v hj]; unfold World.cell?; rw [hg.block b hb (by simpa using hne)]
set_option maxRecDepth 100000 in
set_option maxHeartbeats 20000000 in
theorem refMatch_any (p s : ByteArray) (w : World) (hp : p.size ≤ 140737488355328) (hs : s.size ≤ 140737488355328) :
    Calls Try.prog 80 #[.string p, .string s] w fun e w' => e = .returned (.bool (decide (p.size ≤ 100) && ((patF p.data.toList).map (matchF · s.data.toList)).getD false)) ∧ Below w.heap.size w w' := by
  obtain ⟨i0, hi0, hz0, hz1, hz2⟩ := info_parts infoL
  have HPS := Lib.hid (show p.data.toList.length = p.size by rw [Array.length_toList]; rfl)
  have HSS := Lib.hid (show s.data.toList.length = s.size by rw [Array.length_toList]; rfl)
  go_enter Try.func80, Try.ntmps80
  go_wp2_with fail
  refine (refGlobCheck_any p w hp).mono ?_
  rintro e w0 ⟨rfl, hb0⟩
  have HB0 := Lib.hid hb0
  clear hb0
  by_cases hk0 : chkF p = 0
  · have hp100 : p.size ≤ 100 := by
      unfold chkF at hk0
      rcases Nat.lt_or_ge 100 p.size with h | h
      · rw [if_pos h] at hk0; cases hk0
      · exact h
    rw [hk0]
    have HK0 := Lib.hid hk0
    clear hk0
    go_wp2_with fail
    refine (refSigns_any p w0 hp100).mono ?_
    rintro e w1 ⟨hTS, hb1⟩
    have HB1 := Lib.hid (HB0.out.trans (hb1.mono HB0.out.size))
    rcases hTS with ⟨L, A, c, rfl, hpat, hL, hset, hAlt, hsl⟩ | ⟨hno, rfl⟩
    · have KM := Lib.hid (show (decide (p.size ≤ 100) && ((patF p.data.toList).map (matchF · s.data.toList)).getD false) = matchF L s.data.toList by rw [decide_eq_true hp100, hpat]; rfl)
      have HSET := Lib.hid hset
      generalize hn : L.length = n at *
      have HN := Lib.hid hn
      obtain ⟨m, hm⟩ : ∃ m, s.size = m := ⟨_, rfl⟩
      rw [hm] at hs HSS
      have hmk := run_make (P := Try.prog) (w := w1) 86 4 i0 (.bool false) Try.underlying86 hi0 hz0 .i64 .i64 ((m : Int) + 1) ((m : Int) + 1) (by omega) (by omega) (by rw [hz2]; omega) (by omega)
      rw [show ((m : Int) + 1).toNat = m + 1 by omega, hz1] at hmk
      have B0 := Blk.newA w1 4 (madeCells (Value.bool false).cells ((m + 1) * 1))
      rw [madeBools] at B0
      have hbw : Below w1.heap.size w1 (w1.alloc (.cells (madeCells (Value.bool false).cells ((m + 1) * 1)) 4)) := (Below.refl _ _).alloc (Nat.le_refl _) _
      generalize hw2 : w1.alloc (.cells (madeCells (Value.bool false).cells ((m + 1) * 1)) 4) = w2 at *
      have hs0 : (bools (List.replicate (m + 1) false)).set 0 (.bool true) = bools (trow L s.data.toList 0) := by rw [trow_zero, HSS.out, List.replicate_succ]; rfl
      have c0 := B0.cell 0
      rw [bools_at (by simp)] at c0
      have f0 := B0.frozen 0
      have b1 := B0.set 0 (.bool true)
      rw [hs0] at b1
      have hbw2 : Below w1.heap.size w1 (w2.setCell ⟨w1.heap.size, 0, none⟩ (.bool true)) := Below.setCell hbw (Nat.le_refl _) _
      have hne2 : ∀ a, A = some a → a.block ≠ w1.heap.size := fun a ha => by have := hAlt a ha; omega
      have HBK3 := Lib.hid b1
      have HALT := Lib.hid hAlt
      have HB3 := Lib.hid hbw2
      have HSL3 := Lib.hid (hsl.below hbw2)
      have HNE2 := Lib.hid hne2
      clear hsl hAlt hbw B0 hb1 hs0 b1 hbw2 hne2 hset hpat hn hw2 hi0 hz0 hz1 hz2
      go_wp2_with fail
      clear c0 f0 hmk
      go_loopw [7, 8] (fun v a wr => ∃ (k g : Nat), a = .int .i64 k ∧ k ≤ n ∧ v = .slice (some ⟨g, 0, none⟩) (m + 1) (m + 1) ∧ Blk wr g 4 (bools (trow L s.data.toList k)) ∧ Sl 259 wr A n (encRs L) ∧ (∀ a, A = some a → a.block < wr.heap.size) ∧ (∀ a, A = some a → a.block ≠ g) ∧ w1.heap.size ≤ g ∧ Below w1.heap.size w1 wr) (fun _ a _ => n - (intOf a).toNat)
      case atStart => exact ⟨0, w1.heap.size, rfl, by omega, rfl, HBK3.out, HSL3.out, fun a ha => Nat.lt_of_lt_of_le (HALT.out a ha) HB3.out.size, HNE2.out, Nat.le_refl _, HB3.out⟩
      case round =>
        obtain ⟨k, g, rfl, hk, rfl, hbk, hsl, hlt, hne, hgb, hb⟩ := hrel
        rcases Nat.lt_or_ge k n with h | h
        · have hgs := hbk.lt
          obtain ⟨b, o, x, hA, hr, hsg⟩ := hsl.srRow HSET.out h
          have hbs : b < wr.heap.size := hlt _ hA
          have hxs := HSET.out x (List.mem_of_getElem? hr)
          have HX := Lib.hid (sgAt_eq hr)
          obtain ⟨i0, hi0, hz0, hz1, hz2⟩ := info_parts infoL
          have hmk := run_make (P := Try.prog) (w := wr) 86 4 i0 (.bool false) Try.underlying86 hi0 hz0 .i64 .i64 ((m : Int) + 1) ((m : Int) + 1) (by omega) (by omega) (by rw [hz2]; omega) (by omega)
          rw [show ((m : Int) + 1).toNat = m + 1 by omega, hz1] at hmk
          have B0 := Blk.newA wr 4 (madeCells (Value.bool false).cells ((m + 1) * 1))
          rw [madeBools] at B0
          have hst0 : tpar L s.data.toList (k + 1) 0 = List.replicate (m + 1) false := by rw [tpar_zero, HSS.out]
          rw [← hst0] at B0
          have hbw : Below wr.heap.size wr (wr.alloc (.cells (madeCells (Value.bool false).cells ((m + 1) * 1)) 4)) := (Below.refl _ _).alloc (Nat.le_refl _) _
          have E0 := Lib.hid B0
          have E1 := Lib.hid (hbk.below hbw)
          have E2 := Lib.hid (hsl.below hbw)
          have E3 := Lib.hid (show ∀ a, A = some a → a.block ≠ wr.heap.size from fun a ha => by have := hlt a ha; omega)
          have E4 := Lib.hid (show g ≠ wr.heap.size by omega)
          have E5 := Lib.hid (hb.trans (hbw.mono hb.size))
          have E6 := Lib.hid (show ∀ a, A = some a → a.block < wr.heap.size + 1 from fun a ha => by have := hlt a ha; omega)
          have hsz1 := hb.size
          have HXS := Lib.hid hxs
          have HBS := Lib.hid hbs
          generalize hg2 : wr.heap.size = g2 at *
          generalize wr.alloc (.cells (madeCells (Value.bool false).cells ((m + 1) * 1)) 4) = wm at *
          clear hbk hsl hlt hne hb B0 hbw hst0 hi0 hz0 hz1 hz2 hgs hsg hr hxs
          have HA := Lib.hid hA
          have HBN := Lib.hid (show b ≠ g2 by omega)
          have HSZE := Lib.hid (size_encR HXS.out)
          clear hg2 hbs hA
          go_wp2_with fail
          clear hmk
          go_loopw [10] (fun a wq => ∃ j : Nat, a = .int .i64 j ∧ j ≤ m + 1 ∧ Blk wq g2 4 (bools (tpar L s.data.toList (k + 1) j)) ∧ Blk wq g 4 (bools (trow L s.data.toList k)) ∧ Sl 259 wq A n (encRs L) ∧ Below w1.heap.size w1 wq) (fun a _ => m + 1 - (intOf a).toNat)
          case atStart => exact ⟨0, rfl, Nat.zero_le _, E0.out, E1.out, E2.out, E5.out⟩
          case round =>
            clear E0 E1 E2 E5
            obtain ⟨j, rfl, hj, hb2, hb1, hsl, hb⟩ := hrel
            have D2 := Lib.hid hb2
            have D1 := Lib.hid hb1
            have DS := Lib.hid hsl
            have DB := Lib.hid hb
            rcases Nat.lt_or_ge j (m + 1) with hjm | hjm
            · obtain ⟨b', o', x', hA', hr', hsg⟩ := hsl.srRow HSET.out h
              have hA2 := HA.out
              rw [hA2] at hA'
              cases hA'
              have hx' := sgAt_eq hr'
              rw [HX.out] at hx'
              subst hx'
              have DG := Lib.hid hsg
              have k0 : wr.cell? ⟨b, o + k * 259, none⟩ = some (.int .i64 (krF x.k)) := hsg 0 _ rfl
              have HBL := Lib.hid (show b < wr.heap.size from by
                rcases hsl.at_ with h0 | ⟨_, _, h1, hc⟩
                · have : (encRs L).length = 0 := by rw [h0]; rfl
                  have := hsl.len; omega
                · exact block_lt_of_cell k0)
              have cb := hb1.cell j
              rw [bools_at (by rw [trow_len, HSS.out]; omega), trow_at (by rw [HSS.out]; omega)] at cb
              have c9 := hb2.cell j
              rw [bools_at (by rw [tpar_len, HSS.out]; omega)] at c9
              have f9 := hb2.frozen j
              clear hb2 hb1 hsl hb hsg hr' hA2
              rw [HA.out]
              have q0 : (0:Int) ≤ (j:Int) := by omega
              have q1 : (j:Int) < (m:Int) + 1 := by omega
              have q2 : (j:Int) ≤ (m:Int) := by omega
              clear cb
              have k0' := k0
              clear k0
              by_cases z2 : x.k = 2
              · have k0 : wr.cell? ⟨b, o + k * 259, none⟩ = some (.int .i64 2) := by rw [k0', z2]; rfl
                have SG := Lib.hid (show starG x = true by unfold starG; rw [z2]; rfl)
                clear z2 k0'
                go_wp2_with fail
                cases hr0 : tab L s.data.toList k j with
                | true =>
                  refine wp_region_held_drew (S := fun w' => wr.grownBy w' (some g2)) (by kernel_rfl) ((gb (Below.refl _ _).drew _)) (fun hHeld => ?_)
                  refine wpAnyH_take (i := 0) (oi := ?oi1) (v := ?v1) ?hi1 ?hs1 ?hf1 ?hr1 ?hQ1 (Or.inl ⟨?hg1, ?hy1⟩) hHeld ?rest1
                  case hi1 => simp only [List.getElem?_toArray, List.getElem?_cons_succ, List.getElem?_cons_zero]; rfl
                  case hs1 => kernel_rfl
                  case hf1 => kernel_rfl
                  case hr1 => kernel_rfl
                  case hg1 => rfl
                  case hy1 => (intro w hSw; first | (go_simp; done) | (go_simp; with_reducible rfl))
                  case hQ1 => exact fun _ _ _ h => h
                  try simp only [Act.put, List.setIfInBounds_toArray, List.set_cons_zero, List.set_cons_succ]
                  refine wpAnyH_take (i := 1) (oi := ?oi2) (v := ?v2) ?hi2 ?hs2 ?hf2 ?hr2 ?hQ2 (Or.inl ⟨?hg2, ?hy2⟩) hHeld ?rest2
                  case hi2 => simp only [List.getElem?_toArray, List.getElem?_cons_succ, List.getElem?_cons_zero]; rfl
                  case hs2 => kernel_rfl
                  case hf2 => kernel_rfl
                  case hr2 => kernel_rfl
                  case hg2 => rfl
                  case hy2 => (intro w hSw; first | (go_simp; done) | (go_simp; with_reducible rfl))
                  case hQ2 => exact fun _ _ _ h => h
                  try simp only [Act.put, List.setIfInBounds_toArray, List.set_cons_zero, List.set_cons_succ]
                  refine wpAnyH_take (i := 2) (oi := ?oi3) (v := ?v3) ?hi3 ?hs3 ?hf3 ?hr3 ?hQ3 (Or.inl ⟨?hg3, ?hy3⟩) hHeld ?rest3
                  case hi3 => simp only [List.getElem?_toArray, List.getElem?_cons_succ, List.getElem?_cons_zero]; rfl
                  case hs3 => kernel_rfl
                  case hf3 => kernel_rfl
                  case hr3 => kernel_rfl
                  case hg3 => rfl
                  case hy3 => (intro w hSw; first | (go_simp; done) | (go_simp; with_reducible rfl))
                  case hQ3 => exact fun _ _ _ h => h
                  try simp only [Act.put, List.setIfInBounds_toArray, List.set_cons_zero, List.set_cons_succ]
                  refine wpAnyH_take (i := 3) (oi := ?oi4) (v := ?v4) ?hi4 ?hs4 ?hf4 ?hr4 ?hQ4 (Or.inl ⟨?hg4, ?hy4⟩) hHeld ?rest4
                  case hi4 => simp only [List.getElem?_toArray, List.getElem?_cons_succ, List.getElem?_cons_zero]; rfl
                  case hs4 => kernel_rfl
                  case hf4 => kernel_rfl
                  case hr4 => kernel_rfl
                  case hg4 => rfl
                  case hy4 => (intro w hSw; first | (go_simp; done) | (go_simp; with_reducible rfl))
                  case hQ4 => exact fun _ _ _ h => h
                  try simp only [Act.put, List.setIfInBounds_toArray, List.set_cons_zero, List.set_cons_succ]
                  refine wpAnyH_take (i := 4) (oi := ?oi5) (v := ?v5) ?hi5 ?hs5 ?hf5 ?hr5 ?hQ5 (Or.inl ⟨?hg5, ?hy5⟩) hHeld ?rest5
                  case hi5 => simp only [List.getElem?_toArray, List.getElem?_cons_succ, List.getElem?_cons_zero]; rfl
                  case hs5 => kernel_rfl
                  case hf5 => kernel_rfl
                  case hr5 => kernel_rfl
                  case hg5 => rfl
                  case hy5 => (intro w hSw; first | (go_simp; done) | (go_simp; with_reducible rfl))
                  case hQ5 => exact fun _ _ _ h => h
                  try simp only [Act.put, List.setIfInBounds_toArray, List.set_cons_zero, List.set_cons_succ]
                  refine wpAnyH_take (i := 5) (oi := ?oi6) (v := ?v6) ?hi6 ?hs6 ?hf6 ?hr6 ?hQ6 (Or.inl ⟨?hg6, ?hy6⟩) hHeld ?rest6
                  case hi6 => simp only [List.getElem?_toArray, List.getElem?_cons_succ, List.getElem?_cons_zero]; rfl
                  case hs6 => kernel_rfl
                  case hf6 => kernel_rfl
                  case hr6 => kernel_rfl
                  case hg6 => rfl
                  case hy6 => (intro w hSw; have x0 := (D1.out.grown hSw (by simpa using E4.out)).cell j; rw [bools_at (by rw [trow_len, HSS.out]; omega), trow_at (by have := HSS.out; omega), hr0] at x0; first | (go_simp; done) | (go_simp; with_reducible rfl))
                  case hQ6 => exact fun _ _ _ h => h
                  try simp only [Act.put, List.setIfInBounds_toArray, List.set_cons_zero, List.set_cons_succ]
                  refine wpAnyH_take (i := 6) (oi := ?oi7) (v := ?v7) ?hi7 ?hs7 ?hf7 ?hr7 ?hQ7 (Or.inl ⟨?hg7, ?hy7⟩) hHeld ?rest7
                  case hi7 => simp only [List.getElem?_toArray, List.getElem?_cons_succ, List.getElem?_cons_zero]; rfl
                  case hs7 => kernel_rfl
                  case hf7 => kernel_rfl
                  case hr7 => kernel_rfl
                  case hg7 => rfl
                  case hy7 => (intro w hSw; first | (go_simp; done) | (go_simp; with_reducible rfl))
                  case hQ7 => exact fun _ _ _ h => h
                  try simp only [Act.put, List.setIfInBounds_toArray, List.set_cons_zero, List.set_cons_succ]
                  refine wpAnyH_take (i := 7) (oi := ?oi8) (v := _) ?hi8 ?hs8 ?hf8 ?hr8 ?hQ8 (Or.inr ⟨?hg8, rfl⟩) hHeld ?rest8
                  case hi8 => simp only [List.getElem?_toArray, List.getElem?_cons_succ, List.getElem?_cons_zero]; rfl
                  case hs8 => kernel_rfl
                  case hf8 => kernel_rfl
                  case hr8 => kernel_rfl
                  case hg8 => rfl
                  case hQ8 => exact fun _ _ _ h => h
                  try simp only [Act.put, List.setIfInBounds_toArray, List.set_cons_zero, List.set_cons_succ]
                  refine wpAnyH_take (i := 8) (oi := ?oi9) (v := _) ?hi9 ?hs9 ?hf9 ?hr9 ?hQ9 (Or.inr ⟨?hg9, rfl⟩) hHeld ?rest9
                  case hi9 => simp only [List.getElem?_toArray, List.getElem?_cons_succ, List.getElem?_cons_zero]; rfl
                  case hs9 => kernel_rfl
                  case hf9 => kernel_rfl
                  case hr9 => kernel_rfl
                  case hg9 => rfl
                  case hQ9 => exact fun _ _ _ h => h
                  try simp only [Act.put, List.setIfInBounds_toArray, List.set_cons_zero, List.set_cons_succ]
                  refine wpAnyH_take (i := 9) (oi := ?oi10) (v := _) ?hi10 ?hs10 ?hf10 ?hr10 ?hQ10 (Or.inr ⟨?hg10, rfl⟩) hHeld ?rest10
                  case hi10 => simp only [List.getElem?_toArray, List.getElem?_cons_succ, List.getElem?_cons_zero]; rfl
                  case hs10 => kernel_rfl
                  case hf10 => kernel_rfl
                  case hr10 => kernel_rfl
                  case hg10 => rfl
                  case hQ10 => exact fun _ _ _ h => h
                  try simp only [Act.put, List.setIfInBounds_toArray, List.set_cons_zero, List.set_cons_succ]
                  refine wpAnyH_take (i := 10) (oi := ?oi11) (v := _) ?hi11 ?hs11 ?hf11 ?hr11 ?hQ11 (Or.inr ⟨?hg11, rfl⟩) hHeld ?rest11
                  case hi11 => simp only [List.getElem?_toArray, List.getElem?_cons_succ, List.getElem?_cons_zero]; rfl
                  case hs11 => kernel_rfl
                  case hf11 => kernel_rfl
                  case hr11 => kernel_rfl
                  case hg11 => rfl
                  case hQ11 => exact fun _ _ _ h => h
                  try simp only [Act.put, List.setIfInBounds_toArray, List.set_cons_zero, List.set_cons_succ]
                  refine wpAnyH_take (i := 11) (oi := ?oi12) (v := _) ?hi12 ?hs12 ?hf12 ?hr12 ?hQ12 (Or.inr ⟨?hg12, rfl⟩) hHeld ?rest12
                  case hi12 => simp only [List.getElem?_toArray, List.getElem?_cons_succ, List.getElem?_cons_zero]; rfl
                  case hs12 => kernel_rfl
                  case hf12 => kernel_rfl
                  case hr12 => kernel_rfl
                  case hg12 => rfl
                  case hQ12 => exact fun _ _ _ h => h
                  try simp only [Act.put, List.setIfInBounds_toArray, List.set_cons_zero, List.set_cons_succ]
                  refine wpAnyH_take (i := 12) (oi := ?oi13) (v := _) ?hi13 ?hs13 ?hf13 ?hr13 ?hQ13 (Or.inr ⟨?hg13, rfl⟩) hHeld ?rest13
                  case hi13 => simp only [List.getElem?_toArray, List.getElem?_cons_succ, List.getElem?_cons_zero]; rfl
                  case hs13 => kernel_rfl
                  case hf13 => kernel_rfl
                  case hr13 => kernel_rfl
                  case hg13 => rfl
                  case hQ13 => exact fun _ _ _ h => h
                  try simp only [Act.put, List.setIfInBounds_toArray, List.set_cons_zero, List.set_cons_succ]
                  refine wpAnyH_take (i := 13) (oi := ?oi14) (v := _) ?hi14 ?hs14 ?hf14 ?hr14 ?hQ14 (Or.inr ⟨?hg14, rfl⟩) hHeld ?rest14
                  case hi14 => simp only [List.getElem?_toArray, List.getElem?_cons_succ, List.getElem?_cons_zero]; rfl
                  case hs14 => kernel_rfl
                  case hf14 => kernel_rfl
                  case hr14 => kernel_rfl
                  case hg14 => rfl
                  case hQ14 => exact fun _ _ _ h => h
                  try simp only [Act.put, List.setIfInBounds_toArray, List.set_cons_zero, List.set_cons_succ]
                  refine wpAnyH_take (i := 14) (oi := ?oi15) (v := _) ?hi15 ?hs15 ?hf15 ?hr15 ?hQ15 (Or.inr ⟨?hg15, rfl⟩) hHeld ?rest15
                  case hi15 => simp only [List.getElem?_toArray, List.getElem?_cons_succ, List.getElem?_cons_zero]; rfl
                  case hs15 => kernel_rfl
                  case hf15 => kernel_rfl
                  case hr15 => kernel_rfl
                  case hg15 => rfl
                  case hQ15 => exact fun _ _ _ h => h
                  try simp only [Act.put, List.setIfInBounds_toArray, List.set_cons_zero, List.set_cons_succ]
                  refine wpAnyH_take (i := 15) (oi := ?oi16) (v := _) ?hi16 ?hs16 ?hf16 ?hr16 ?hQ16 (Or.inr ⟨?hg16, rfl⟩) hHeld ?rest16
                  case hi16 => simp only [List.getElem?_toArray, List.getElem?_cons_succ, List.getElem?_cons_zero]; rfl
                  case hs16 => kernel_rfl
                  case hf16 => kernel_rfl
                  case hr16 => kernel_rfl
                  case hg16 => rfl
                  case hQ16 => exact fun _ _ _ h => h
                  try simp only [Act.put, List.setIfInBounds_toArray, List.set_cons_zero, List.set_cons_succ]
                  refine wpAnyH_take (i := 16) (oi := ?oi17) (v := _) ?hi17 ?hs17 ?hf17 ?hr17 ?hQ17 (Or.inr ⟨?hg17, rfl⟩) hHeld ?rest17
                  case hi17 => simp only [List.getElem?_toArray, List.getElem?_cons_succ, List.getElem?_cons_zero]; rfl
                  case hs17 => kernel_rfl
                  case hf17 => kernel_rfl
                  case hr17 => kernel_rfl
                  case hg17 => rfl
                  case hQ17 => exact fun _ _ _ h => h
                  try simp only [Act.put, List.setIfInBounds_toArray, List.set_cons_zero, List.set_cons_succ]
                  refine wpAnyH_take (i := 17) (oi := ?oi18) (v := _) ?hi18 ?hs18 ?hf18 ?hr18 ?hQ18 (Or.inr ⟨?hg18, rfl⟩) hHeld ?rest18
                  case hi18 => simp only [List.getElem?_toArray, List.getElem?_cons_succ, List.getElem?_cons_zero]; rfl
                  case hs18 => kernel_rfl
                  case hf18 => kernel_rfl
                  case hr18 => kernel_rfl
                  case hg18 => rfl
                  case hQ18 => exact fun _ _ _ h => h
                  try simp only [Act.put, List.setIfInBounds_toArray, List.set_cons_zero, List.set_cons_succ]
                  refine wpAnyH_take (i := 18) (oi := ?oi19) (v := _) ?hi19 ?hs19 ?hf19 ?hr19 ?hQ19 (Or.inr ⟨?hg19, rfl⟩) hHeld ?rest19
                  case hi19 => simp only [List.getElem?_toArray, List.getElem?_cons_succ, List.getElem?_cons_zero]; rfl
                  case hs19 => kernel_rfl
                  case hf19 => kernel_rfl
                  case hr19 => kernel_rfl
                  case hg19 => rfl
                  case hQ19 => exact fun _ _ _ h => h
                  try simp only [Act.put, List.setIfInBounds_toArray, List.set_cons_zero, List.set_cons_succ]
                  refine wpAnyH_take (i := 19) (oi := ?oi20) (v := _) ?hi20 ?hs20 ?hf20 ?hr20 ?hQ20 (Or.inr ⟨?hg20, rfl⟩) hHeld ?rest20
                  case hi20 => simp only [List.getElem?_toArray, List.getElem?_cons_succ, List.getElem?_cons_zero]; rfl
                  case hs20 => kernel_rfl
                  case hf20 => kernel_rfl
                  case hr20 => kernel_rfl
                  case hg20 => rfl
                  case hQ20 => exact fun _ _ _ h => h
                  try simp only [Act.put, List.setIfInBounds_toArray, List.set_cons_zero, List.set_cons_succ]
                  refine wpAnyH_take (i := 20) (oi := ?oi21) (v := _) ?hi21 ?hs21 ?hf21 ?hr21 ?hQ21 (Or.inr ⟨?hg21, rfl⟩) hHeld ?rest21
                  case hi21 => simp only [List.getElem?_toArray, List.getElem?_cons_succ, List.getElem?_cons_zero]; rfl
                  case hs21 => kernel_rfl
                  case hf21 => kernel_rfl
                  case hr21 => kernel_rfl
                  case hg21 => rfl
                  case hQ21 => exact fun _ _ _ h => h
                  try simp only [Act.put, List.setIfInBounds_toArray, List.set_cons_zero, List.set_cons_succ]
                  refine wpAnyH_take (i := 21) (oi := ?oi22) (v := _) ?hi22 ?hs22 ?hf22 ?hr22 ?hQ22 (Or.inr ⟨?hg22, rfl⟩) hHeld ?rest22
                  case hi22 => simp only [List.getElem?_toArray, List.getElem?_cons_succ, List.getElem?_cons_zero]; rfl
                  case hs22 => kernel_rfl
                  case hf22 => kernel_rfl
                  case hr22 => kernel_rfl
                  case hg22 => rfl
                  case hQ22 => exact fun _ _ _ h => h
                  try simp only [Act.put, List.setIfInBounds_toArray, List.set_cons_zero, List.set_cons_succ]
                  refine wpAnyH_take (i := 22) (oi := ?oi23) (v := _) ?hi23 ?hs23 ?hf23 ?hr23 ?hQ23 (Or.inr ⟨?hg23, rfl⟩) hHeld ?rest23
                  case hi23 => simp only [List.getElem?_toArray, List.getElem?_cons_succ, List.getElem?_cons_zero]; rfl
                  case hs23 => kernel_rfl
                  case hf23 => kernel_rfl
                  case hr23 => kernel_rfl
                  case hg23 => rfl
                  case hQ23 => exact fun _ _ _ h => h
                  try simp only [Act.put, List.setIfInBounds_toArray, List.set_cons_zero, List.set_cons_succ]
                  refine wpAnyH_take (i := 23) (oi := ?oi24) (v := _) ?hi24 ?hs24 ?hf24 ?hr24 ?hQ24 (Or.inr ⟨?hg24, rfl⟩) hHeld ?rest24
                  case hi24 => simp only [List.getElem?_toArray, List.getElem?_cons_succ, List.getElem?_cons_zero]; rfl
                  case hs24 => kernel_rfl
                  case hf24 => kernel_rfl
                  case hr24 => kernel_rfl
                  case hg24 => rfl
                  case hQ24 => exact fun _ _ _ h => h
                  try simp only [Act.put, List.setIfInBounds_toArray, List.set_cons_zero, List.set_cons_succ]
                  refine wpAnyH_take (i := 24) (oi := ?oi25) (v := _) ?hi25 ?hs25 ?hf25 ?hr25 ?hQ25 (Or.inr ⟨?hg25, rfl⟩) hHeld ?rest25
                  case hi25 => simp only [List.getElem?_toArray, List.getElem?_cons_succ, List.getElem?_cons_zero]; rfl
                  case hs25 => kernel_rfl
                  case hf25 => kernel_rfl
                  case hr25 => kernel_rfl
                  case hg25 => rfl
                  case hQ25 => exact fun _ _ _ h => h
                  try simp only [Act.put, List.setIfInBounds_toArray, List.set_cons_zero, List.set_cons_succ]
                  refine wpAnyH_take (i := 25) (oi := ?oi26) (v := _) ?hi26 ?hs26 ?hf26 ?hr26 ?hQ26 (Or.inr ⟨?hg26, rfl⟩) hHeld ?rest26
                  case hi26 => simp only [List.getElem?_toArray, List.getElem?_cons_succ, List.getElem?_cons_zero]; rfl
                  case hs26 => kernel_rfl
                  case hf26 => kernel_rfl
                  case hr26 => kernel_rfl
                  case hg26 => rfl
                  case hQ26 => exact fun _ _ _ h => h
                  try simp only [Act.put, List.setIfInBounds_toArray, List.set_cons_zero, List.set_cons_succ]
                  refine wpAnyH_take (i := 26) (oi := ?oi27) (v := _) ?hi27 ?hs27 ?hf27 ?hr27 ?hQ27 (Or.inr ⟨?hg27, rfl⟩) hHeld ?rest27
                  case hi27 => simp only [List.getElem?_toArray, List.getElem?_cons_succ, List.getElem?_cons_zero]; rfl
                  case hs27 => kernel_rfl
                  case hf27 => kernel_rfl
                  case hr27 => kernel_rfl
                  case hg27 => rfl
                  case hQ27 => exact fun _ _ _ h => h
                  try simp only [Act.put, List.setIfInBounds_toArray, List.set_cons_zero, List.set_cons_succ]
                  refine wpAnyH_take (i := 27) (oi := ?oi28) (v := ?v28) ?hi28 ?hs28 ?hf28 ?hr28 ?hQ28 (Or.inl ⟨?hg28, ?hy28⟩) hHeld ?rest28
                  case hi28 => simp only [List.getElem?_toArray, List.getElem?_cons_succ, List.getElem?_cons_zero]; rfl
                  case hs28 => kernel_rfl
                  case hf28 => kernel_rfl
                  case hr28 => kernel_rfl
                  case hg28 => rfl
                  case hy28 => (intro w hSw; first | (go_simp; done) | (go_simp; with_reducible rfl))
                  case hQ28 => exact fun _ _ _ h => h
                  try simp only [Act.put, List.setIfInBounds_toArray, List.set_cons_zero, List.set_cons_succ]
                  refine wpAnyH_take (i := 28) (oi := ?oi29) (v := ?v29) ?hi29 ?hs29 ?hf29 ?hr29 ?hQ29 (Or.inl ⟨?hg29, ?hy29⟩) hHeld ?rest29
                  case hi29 => simp only [List.getElem?_toArray, List.getElem?_cons_succ, List.getElem?_cons_zero]; rfl
                  case hs29 => kernel_rfl
                  case hf29 => kernel_rfl
                  case hr29 => kernel_rfl
                  case hg29 => rfl
                  case hy29 => (intro w hSw; first | (go_simp; done) | (go_simp; with_reducible rfl))
                  case hQ29 => exact fun _ _ _ h => h
                  try simp only [Act.put, List.setIfInBounds_toArray, List.set_cons_zero, List.set_cons_succ]
                  refine wpAnyH_ready (rs := [29]) (by kernel_rfl) (by simp) ?_
                  refine AllReadyH.cons (o := ?oi30) ?hi30 (fun K hK => ?_) AllReadyH.nil
                  case hi30 => simp only [List.getElem?_toArray, List.getElem?_cons_succ, List.getElem?_cons_zero]; rfl
                  go_simp
                  refine hK.out _ _ ((grown_set (gb (Below.refl _ _).drew _) _ _)) (fun hHeld2 => ?_)
                  clear hK K hHeld
                  have hHeld := hHeld2
                  clear hHeld2
                  try simp only [Act.put, List.setIfInBounds_toArray, List.set_cons_zero, List.set_cons_succ]
                  refine wpAnyH_done (by kernel_rfl) ?_ _
                  clear hHeld c9 f9
                  go_wp2_with fail
                  go_roundw
                  case rel => exact ⟨j + 1, by first | rfl | go_num, by omega, by rw [← tpar_set L s.data.toList (k + 1) (by have := HSS.out; omega) (tab_star_t HX.out SG.out hr0), ← bools_set]; exact (D2.out.set _ _).drew, (D1.out.other E4.out _).drew, by rw [← HA.out]; exact (sl_set DS.out E3.out _ _).drew, (Below.setCell DB.out hsz1 _).drew⟩
                  case measure => simp [intOf] <;> omega
                | false =>
                  cases j with
                  | zero =>
                    refine wp_region_held_drew (S := fun w' => wr.grownBy w' (some g2)) (by kernel_rfl) ((gb (Below.refl _ _).drew _)) (fun hHeld => ?_)
                    refine wpAnyH_take (i := 0) (oi := ?oi31) (v := ?v31) ?hi31 ?hs31 ?hf31 ?hr31 ?hQ31 (Or.inl ⟨?hg31, ?hy31⟩) hHeld ?rest31
                    case hi31 => simp only [List.getElem?_toArray, List.getElem?_cons_succ, List.getElem?_cons_zero]; rfl
                    case hs31 => kernel_rfl
                    case hf31 => kernel_rfl
                    case hr31 => kernel_rfl
                    case hg31 => rfl
                    case hy31 => (intro w hSw; first | (go_simp; done) | (go_simp; with_reducible rfl))
                    case hQ31 => exact fun _ _ _ h => h
                    try simp only [Act.put, List.setIfInBounds_toArray, List.set_cons_zero, List.set_cons_succ]
                    refine wpAnyH_take (i := 1) (oi := ?oi32) (v := ?v32) ?hi32 ?hs32 ?hf32 ?hr32 ?hQ32 (Or.inl ⟨?hg32, ?hy32⟩) hHeld ?rest32
                    case hi32 => simp only [List.getElem?_toArray, List.getElem?_cons_succ, List.getElem?_cons_zero]; rfl
                    case hs32 => kernel_rfl
                    case hf32 => kernel_rfl
                    case hr32 => kernel_rfl
                    case hg32 => rfl
                    case hy32 => (intro w hSw; first | (go_simp; done) | (go_simp; with_reducible rfl))
                    case hQ32 => exact fun _ _ _ h => h
                    try simp only [Act.put, List.setIfInBounds_toArray, List.set_cons_zero, List.set_cons_succ]
                    refine wpAnyH_take (i := 2) (oi := ?oi33) (v := ?v33) ?hi33 ?hs33 ?hf33 ?hr33 ?hQ33 (Or.inl ⟨?hg33, ?hy33⟩) hHeld ?rest33
                    case hi33 => simp only [List.getElem?_toArray, List.getElem?_cons_succ, List.getElem?_cons_zero]; rfl
                    case hs33 => kernel_rfl
                    case hf33 => kernel_rfl
                    case hr33 => kernel_rfl
                    case hg33 => rfl
                    case hy33 => (intro w hSw; first | (go_simp; done) | (go_simp; with_reducible rfl))
                    case hQ33 => exact fun _ _ _ h => h
                    try simp only [Act.put, List.setIfInBounds_toArray, List.set_cons_zero, List.set_cons_succ]
                    refine wpAnyH_take (i := 3) (oi := ?oi34) (v := ?v34) ?hi34 ?hs34 ?hf34 ?hr34 ?hQ34 (Or.inl ⟨?hg34, ?hy34⟩) hHeld ?rest34
                    case hi34 => simp only [List.getElem?_toArray, List.getElem?_cons_succ, List.getElem?_cons_zero]; rfl
                    case hs34 => kernel_rfl
                    case hf34 => kernel_rfl
                    case hr34 => kernel_rfl
                    case hg34 => rfl
                    case hy34 => (intro w hSw; first | (go_simp; done) | (go_simp; with_reducible rfl))
                    case hQ34 => exact fun _ _ _ h => h
                    try simp only [Act.put, List.setIfInBounds_toArray, List.set_cons_zero, List.set_cons_succ]
                    refine wpAnyH_take (i := 4) (oi := ?oi35) (v := ?v35) ?hi35 ?hs35 ?hf35 ?hr35 ?hQ35 (Or.inl ⟨?hg35, ?hy35⟩) hHeld ?rest35
                    case hi35 => simp only [List.getElem?_toArray, List.getElem?_cons_succ, List.getElem?_cons_zero]; rfl
                    case hs35 => kernel_rfl
                    case hf35 => kernel_rfl
                    case hr35 => kernel_rfl
                    case hg35 => rfl
                    case hy35 => (intro w hSw; first | (go_simp; done) | (go_simp; with_reducible rfl))
                    case hQ35 => exact fun _ _ _ h => h
                    try simp only [Act.put, List.setIfInBounds_toArray, List.set_cons_zero, List.set_cons_succ]
                    refine wpAnyH_take (i := 5) (oi := ?oi36) (v := ?v36) ?hi36 ?hs36 ?hf36 ?hr36 ?hQ36 (Or.inl ⟨?hg36, ?hy36⟩) hHeld ?rest36
                    case hi36 => simp only [List.getElem?_toArray, List.getElem?_cons_succ, List.getElem?_cons_zero]; rfl
                    case hs36 => kernel_rfl
                    case hf36 => kernel_rfl
                    case hr36 => kernel_rfl
                    case hg36 => rfl
                    case hy36 => (intro w hSw; have x0 := (D1.out.grown hSw (by simpa using E4.out)).cell 0; rw [bools_at (by rw [trow_len, HSS.out]; omega), trow_at (by have := HSS.out; omega), hr0] at x0; first | (go_simp; done) | (go_simp; with_reducible rfl))
                    case hQ36 => exact fun _ _ _ h => h
                    try simp only [Act.put, List.setIfInBounds_toArray, List.set_cons_zero, List.set_cons_succ]
                    refine wpAnyH_take (i := 6) (oi := ?oi37) (v := ?v37) ?hi37 ?hs37 ?hf37 ?hr37 ?hQ37 (Or.inl ⟨?hg37, ?hy37⟩) hHeld ?rest37
                    case hi37 => simp only [List.getElem?_toArray, List.getElem?_cons_succ, List.getElem?_cons_zero]; rfl
                    case hs37 => kernel_rfl
                    case hf37 => kernel_rfl
                    case hr37 => kernel_rfl
                    case hg37 => rfl
                    case hy37 => (intro w hSw; first | (go_simp; done) | (go_simp; with_reducible rfl))
                    case hQ37 => exact fun _ _ _ h => h
                    try simp only [Act.put, List.setIfInBounds_toArray, List.set_cons_zero, List.set_cons_succ]
                    refine wpAnyH_take (i := 7) (oi := ?oi38) (v := ?v38) ?hi38 ?hs38 ?hf38 ?hr38 ?hQ38 (Or.inl ⟨?hg38, ?hy38⟩) hHeld ?rest38
                    case hi38 => simp only [List.getElem?_toArray, List.getElem?_cons_succ, List.getElem?_cons_zero]; rfl
                    case hs38 => kernel_rfl
                    case hf38 => kernel_rfl
                    case hr38 => kernel_rfl
                    case hg38 => rfl
                    case hy38 => (intro w hSw; first | (go_simp; done) | (go_simp; with_reducible rfl))
                    case hQ38 => exact fun _ _ _ h => h
                    try simp only [Act.put, List.setIfInBounds_toArray, List.set_cons_zero, List.set_cons_succ]
                    refine wpAnyH_take (i := 8) (oi := ?oi39) (v := ?v39) ?hi39 ?hs39 ?hf39 ?hr39 ?hQ39 (Or.inl ⟨?hg39, ?hy39⟩) hHeld ?rest39
                    case hi39 => simp only [List.getElem?_toArray, List.getElem?_cons_succ, List.getElem?_cons_zero]; rfl
                    case hs39 => kernel_rfl
                    case hf39 => kernel_rfl
                    case hr39 => kernel_rfl
                    case hg39 => rfl
                    case hy39 => (intro w hSw; first | (go_simp; done) | (go_simp; with_reducible rfl))
                    case hQ39 => exact fun _ _ _ h => h
                    try simp only [Act.put, List.setIfInBounds_toArray, List.set_cons_zero, List.set_cons_succ]
                    refine wpAnyH_take (i := 9) (oi := ?oi40) (v := ?v40) ?hi40 ?hs40 ?hf40 ?hr40 ?hQ40 (Or.inl ⟨?hg40, ?hy40⟩) hHeld ?rest40
                    case hi40 => simp only [List.getElem?_toArray, List.getElem?_cons_succ, List.getElem?_cons_zero]; rfl
                    case hs40 => kernel_rfl
                    case hf40 => kernel_rfl
                    case hr40 => kernel_rfl
                    case hg40 => rfl
                    case hy40 => (intro w hSw; first | (go_simp; done) | (go_simp; with_reducible rfl))
                    case hQ40 => exact fun _ _ _ h => h
                    try simp only [Act.put, List.setIfInBounds_toArray, List.set_cons_zero, List.set_cons_succ]
                    refine wpAnyH_take (i := 10) (oi := ?oi41) (v := _) ?hi41 ?hs41 ?hf41 ?hr41 ?hQ41 (Or.inr ⟨?hg41, rfl⟩) hHeld ?rest41
                    case hi41 => simp only [List.getElem?_toArray, List.getElem?_cons_succ, List.getElem?_cons_zero]; rfl
                    case hs41 => kernel_rfl
                    case hf41 => kernel_rfl
                    case hr41 => kernel_rfl
                    case hg41 => rfl
                    case hQ41 => exact fun _ _ _ h => h
                    try simp only [Act.put, List.setIfInBounds_toArray, List.set_cons_zero, List.set_cons_succ]
                    refine wpAnyH_take (i := 11) (oi := ?oi42) (v := _) ?hi42 ?hs42 ?hf42 ?hr42 ?hQ42 (Or.inr ⟨?hg42, rfl⟩) hHeld ?rest42
                    case hi42 => simp only [List.getElem?_toArray, List.getElem?_cons_succ, List.getElem?_cons_zero]; rfl
                    case hs42 => kernel_rfl
                    case hf42 => kernel_rfl
                    case hr42 => kernel_rfl
                    case hg42 => rfl
                    case hQ42 => exact fun _ _ _ h => h
                    try simp only [Act.put, List.setIfInBounds_toArray, List.set_cons_zero, List.set_cons_succ]
                    refine wpAnyH_take (i := 12) (oi := ?oi43) (v := _) ?hi43 ?hs43 ?hf43 ?hr43 ?hQ43 (Or.inr ⟨?hg43, rfl⟩) hHeld ?rest43
                    case hi43 => simp only [List.getElem?_toArray, List.getElem?_cons_succ, List.getElem?_cons_zero]; rfl
                    case hs43 => kernel_rfl
                    case hf43 => kernel_rfl
                    case hr43 => kernel_rfl
                    case hg43 => rfl
                    case hQ43 => exact fun _ _ _ h => h
                    try simp only [Act.put, List.setIfInBounds_toArray, List.set_cons_zero, List.set_cons_succ]
                    refine wpAnyH_take (i := 13) (oi := ?oi44) (v := _) ?hi44 ?hs44 ?hf44 ?hr44 ?hQ44 (Or.inr ⟨?hg44, rfl⟩) hHeld ?rest44
                    case hi44 => simp only [List.getElem?_toArray, List.getElem?_cons_succ, List.getElem?_cons_zero]; rfl
                    case hs44 => kernel_rfl
                    case hf44 => kernel_rfl
                    case hr44 => kernel_rfl
                    case hg44 => rfl
                    case hQ44 => exact fun _ _ _ h => h
                    try simp only [Act.put, List.setIfInBounds_toArray, List.set_cons_zero, List.set_cons_succ]
                    refine wpAnyH_take (i := 14) (oi := ?oi45) (v := _) ?hi45 ?hs45 ?hf45 ?hr45 ?hQ45 (Or.inr ⟨?hg45, rfl⟩) hHeld ?rest45
                    case hi45 => simp only [List.getElem?_toArray, List.getElem?_cons_succ, List.getElem?_cons_zero]; rfl
                    case hs45 => kernel_rfl
                    case hf45 => kernel_rfl
                    case hr45 => kernel_rfl
                    case hg45 => rfl
                    case hQ45 => exact fun _ _ _ h => h
                    try simp only [Act.put, List.setIfInBounds_toArray, List.set_cons_zero, List.set_cons_succ]
                    refine wpAnyH_take (i := 15) (oi := ?oi46) (v := ?v46) ?hi46 ?hs46 ?hf46 ?hr46 ?hQ46 (Or.inl ⟨?hg46, ?hy46⟩) hHeld ?rest46
                    case hi46 => simp only [List.getElem?_toArray, List.getElem?_cons_succ, List.getElem?_cons_zero]; rfl
                    case hs46 => kernel_rfl
                    case hf46 => kernel_rfl
                    case hr46 => kernel_rfl
                    case hg46 => rfl
                    case hy46 => (intro w hSw; first | (go_simp; done) | (go_simp; with_reducible rfl))
                    case hQ46 => exact fun _ _ _ h => h
                    try simp only [Act.put, List.setIfInBounds_toArray, List.set_cons_zero, List.set_cons_succ]
                    refine wpAnyH_take (i := 16) (oi := ?oi47) (v := ?v47) ?hi47 ?hs47 ?hf47 ?hr47 ?hQ47 (Or.inl ⟨?hg47, ?hy47⟩) hHeld ?rest47
                    case hi47 => simp only [List.getElem?_toArray, List.getElem?_cons_succ, List.getElem?_cons_zero]; rfl
                    case hs47 => kernel_rfl
                    case hf47 => kernel_rfl
                    case hr47 => kernel_rfl
                    case hg47 => rfl
                    case hy47 => (intro w hSw; first | (go_simp; done) | (go_simp; with_reducible rfl))
                    case hQ47 => exact fun _ _ _ h => h
                    try simp only [Act.put, List.setIfInBounds_toArray, List.set_cons_zero, List.set_cons_succ]
                    refine wpAnyH_take (i := 17) (oi := ?oi48) (v := _) ?hi48 ?hs48 ?hf48 ?hr48 ?hQ48 (Or.inr ⟨?hg48, rfl⟩) hHeld ?rest48
                    case hi48 => simp only [List.getElem?_toArray, List.getElem?_cons_succ, List.getElem?_cons_zero]; rfl
                    case hs48 => kernel_rfl
                    case hf48 => kernel_rfl
                    case hr48 => kernel_rfl
                    case hg48 => rfl
                    case hQ48 => exact fun _ _ _ h => h
                    try simp only [Act.put, List.setIfInBounds_toArray, List.set_cons_zero, List.set_cons_succ]
                    refine wpAnyH_take (i := 18) (oi := ?oi49) (v := _) ?hi49 ?hs49 ?hf49 ?hr49 ?hQ49 (Or.inr ⟨?hg49, rfl⟩) hHeld ?rest49
                    case hi49 => simp only [List.getElem?_toArray, List.getElem?_cons_succ, List.getElem?_cons_zero]; rfl
                    case hs49 => kernel_rfl
                    case hf49 => kernel_rfl
                    case hr49 => kernel_rfl
                    case hg49 => rfl
                    case hQ49 => exact fun _ _ _ h => h
                    try simp only [Act.put, List.setIfInBounds_toArray, List.set_cons_zero, List.set_cons_succ]
                    refine wpAnyH_take (i := 19) (oi := ?oi50) (v := _) ?hi50 ?hs50 ?hf50 ?hr50 ?hQ50 (Or.inr ⟨?hg50, rfl⟩) hHeld ?rest50
                    case hi50 => simp only [List.getElem?_toArray, List.getElem?_cons_succ, List.getElem?_cons_zero]; rfl
                    case hs50 => kernel_rfl
                    case hf50 => kernel_rfl
                    case hr50 => kernel_rfl
                    case hg50 => rfl
                    case hQ50 => exact fun _ _ _ h => h
                    try simp only [Act.put, List.setIfInBounds_toArray, List.set_cons_zero, List.set_cons_succ]
                    refine wpAnyH_take (i := 20) (oi := ?oi51) (v := _) ?hi51 ?hs51 ?hf51 ?hr51 ?hQ51 (Or.inr ⟨?hg51, rfl⟩) hHeld ?rest51
                    case hi51 => simp only [List.getElem?_toArray, List.getElem?_cons_succ, List.getElem?_cons_zero]; rfl
                    case hs51 => kernel_rfl
                    case hf51 => kernel_rfl
                    case hr51 => kernel_rfl
                    case hg51 => rfl
                    case hQ51 => exact fun _ _ _ h => h
                    try simp only [Act.put, List.setIfInBounds_toArray, List.set_cons_zero, List.set_cons_succ]
                    refine wpAnyH_take (i := 21) (oi := ?oi52) (v := _) ?hi52 ?hs52 ?hf52 ?hr52 ?hQ52 (Or.inr ⟨?hg52, rfl⟩) hHeld ?rest52
                    case hi52 => simp only [List.getElem?_toArray, List.getElem?_cons_succ, List.getElem?_cons_zero]; rfl
                    case hs52 => kernel_rfl
                    case hf52 => kernel_rfl
                    case hr52 => kernel_rfl
                    case hg52 => rfl
                    case hQ52 => exact fun _ _ _ h => h
                    try simp only [Act.put, List.setIfInBounds_toArray, List.set_cons_zero, List.set_cons_succ]
                    refine wpAnyH_take (i := 22) (oi := ?oi53) (v := _) ?hi53 ?hs53 ?hf53 ?hr53 ?hQ53 (Or.inr ⟨?hg53, rfl⟩) hHeld ?rest53
                    case hi53 => simp only [List.getElem?_toArray, List.getElem?_cons_succ, List.getElem?_cons_zero]; rfl
                    case hs53 => kernel_rfl
                    case hf53 => kernel_rfl
                    case hr53 => kernel_rfl
                    case hg53 => rfl
                    case hQ53 => exact fun _ _ _ h => h
                    try simp only [Act.put, List.setIfInBounds_toArray, List.set_cons_zero, List.set_cons_succ]
                    refine wpAnyH_take (i := 23) (oi := ?oi54) (v := _) ?hi54 ?hs54 ?hf54 ?hr54 ?hQ54 (Or.inr ⟨?hg54, rfl⟩) hHeld ?rest54
                    case hi54 => simp only [List.getElem?_toArray, List.getElem?_cons_succ, List.getElem?_cons_zero]; rfl
                    case hs54 => kernel_rfl
                    case hf54 => kernel_rfl
                    case hr54 => kernel_rfl
                    case hg54 => rfl
                    case hQ54 => exact fun _ _ _ h => h
                    try simp only [Act.put, List.setIfInBounds_toArray, List.set_cons_zero, List.set_cons_succ]
                    refine wpAnyH_take (i := 24) (oi := ?oi55) (v := _) ?hi55 ?hs55 ?hf55 ?hr55 ?hQ55 (Or.inr ⟨?hg55, rfl⟩) hHeld ?rest55
                    case hi55 => simp only [List.getElem?_toArray, List.getElem?_cons_succ, List.getElem?_cons_zero]; rfl
                    case hs55 => kernel_rfl
                    case hf55 => kernel_rfl
                    case hr55 => kernel_rfl
                    case hg55 => rfl
                    case hQ55 => exact fun _ _ _ h => h
                    try simp only [Act.put, List.setIfInBounds_toArray, List.set_cons_zero, List.set_cons_succ]
                    refine wpAnyH_take (i := 25) (oi := ?oi56) (v := _) ?hi56 ?hs56 ?hf56 ?hr56 ?hQ56 (Or.inr ⟨?hg56, rfl⟩) hHeld ?rest56
                    case hi56 => simp only [List.getElem?_toArray, List.getElem?_cons_succ, List.getElem?_cons_zero]; rfl
                    case hs56 => kernel_rfl
                    case hf56 => kernel_rfl
                    case hr56 => kernel_rfl
                    case hg56 => rfl
                    case hQ56 => exact fun _ _ _ h => h
                    try simp only [Act.put, List.setIfInBounds_toArray, List.set_cons_zero, List.set_cons_succ]
                    refine wpAnyH_take (i := 26) (oi := ?oi57) (v := ?v57) ?hi57 ?hs57 ?hf57 ?hr57 ?hQ57 (Or.inl ⟨?hg57, ?hy57⟩) hHeld ?rest57
                    case hi57 => simp only [List.getElem?_toArray, List.getElem?_cons_succ, List.getElem?_cons_zero]; rfl
                    case hs57 => kernel_rfl
                    case hf57 => kernel_rfl
                    case hr57 => kernel_rfl
                    case hg57 => rfl
                    case hy57 => (intro w hSw; first | (go_simp; done) | (go_simp; with_reducible rfl))
                    case hQ57 => exact fun _ _ _ h => h
                    try simp only [Act.put, List.setIfInBounds_toArray, List.set_cons_zero, List.set_cons_succ]
                    refine wpAnyH_take (i := 27) (oi := ?oi58) (v := ?v58) ?hi58 ?hs58 ?hf58 ?hr58 ?hQ58 (Or.inl ⟨?hg58, ?hy58⟩) hHeld ?rest58
                    case hi58 => simp only [List.getElem?_toArray, List.getElem?_cons_succ, List.getElem?_cons_zero]; rfl
                    case hs58 => kernel_rfl
                    case hf58 => kernel_rfl
                    case hr58 => kernel_rfl
                    case hg58 => rfl
                    case hy58 => (intro w hSw; first | (go_simp; done) | (go_simp; with_reducible rfl))
                    case hQ58 => exact fun _ _ _ h => h
                    try simp only [Act.put, List.setIfInBounds_toArray, List.set_cons_zero, List.set_cons_succ]
                    refine wpAnyH_take (i := 28) (oi := ?oi59) (v := ?v59) ?hi59 ?hs59 ?hf59 ?hr59 ?hQ59 (Or.inl ⟨?hg59, ?hy59⟩) hHeld ?rest59
                    case hi59 => simp only [List.getElem?_toArray, List.getElem?_cons_succ, List.getElem?_cons_zero]; rfl
                    case hs59 => kernel_rfl
                    case hf59 => kernel_rfl
                    case hr59 => kernel_rfl
                    case hg59 => rfl
                    case hy59 => (intro w hSw; first | (go_simp; done) | (go_simp; with_reducible rfl))
                    case hQ59 => exact fun _ _ _ h => h
                    try simp only [Act.put, List.setIfInBounds_toArray, List.set_cons_zero, List.set_cons_succ]
                    refine wpAnyH_ready (rs := [29]) (by kernel_rfl) (by simp) ?_
                    refine AllReadyH.cons (o := ?oi60) ?hi60 (fun K hK => ?_) AllReadyH.nil
                    case hi60 => simp only [List.getElem?_toArray, List.getElem?_cons_succ, List.getElem?_cons_zero]; rfl
                    go_simp
                    refine hK.out _ _ ((grown_set (gb (Below.refl _ _).drew _) _ _)) (fun hHeld2 => ?_)
                    clear hK K hHeld
                    have hHeld := hHeld2
                    clear hHeld2
                    try simp only [Act.put, List.setIfInBounds_toArray, List.set_cons_zero, List.set_cons_succ]
                    refine wpAnyH_done (by kernel_rfl) ?_ _
                    clear hHeld c9 f9
                    go_wp2_with fail
                    go_roundw
                    case rel => exact ⟨0 + 1, by first | rfl | go_num, by omega, by rw [← tpar_set L s.data.toList (k + 1) (by have := HSS.out; omega) (tab_star_0 HX.out hr0), ← bools_set]; exact (D2.out.set _ _).drew, (D1.out.other E4.out _).drew, by rw [← HA.out]; exact (sl_set DS.out E3.out _ _).drew, (Below.setCell DB.out hsz1 _).drew⟩
                    case measure => simp [intOf] <;> omega
                  | succ j1 =>
                    obtain ⟨cc, hcc⟩ : ∃ cc, s[j1]'(by omega) = cc := ⟨_, rfl⟩
                    have HCC := Lib.hid (show s.data.toList[j1]?.getD 0 = cc by rw [data_at s j1 (by omega), hcc]; rfl)
                    have ej : ((j1 : Int) + 1 - 1) = (j1 : Int) := by omega
                    have p1 : j1 < m := by omega
                    have p2 : (0 : Int) ≤ (j1 : Int) + 1 := by omega
                    have p3 : (j1 : Int) < (m : Int) := by omega
                    have pw : IntKind.i64.wrap (j1 : Int) = (j1 : Int) := by rw [IntKind.wrap_i64]; omega
                    have p4 : (j1 : Int) < (m : Int) + 1 := by omega
                    have p5 : (0 : Int) < (j1 : Int) + 1 := by omega
                    clear q0 q1 q2
                    have hnb : wr.cell? ⟨g2, j1, none⟩ = some (.bool (tab L s.data.toList (k + 1) j1)) := by rw [D2.out.cell, bools_at (by rw [tpar_len, HSS.out]; omega), tpar_at (by rw [HSS.out]; omega), decide_eq_true (by omega)]; rfl
                    have KT := Lib.hid (tab_star_s HX.out SG.out hr0 HCC.out)
                    cases hn0 : tab L s.data.toList (k + 1) j1 with
                    | false =>
                      rw [hn0] at hnb
                      have CN := Lib.hid hnb
                      clear hnb
                      refine wp_region_held_drew (S := fun w' => wr.grownBy w' (some g2) ∧ w'.cell? ⟨g2, j1, none⟩ = some (.bool false)) (by kernel_rfl) (⟨gb (Below.refl _ _).drew _, CN.out⟩) (fun hHeld => ?_)
                      refine wpAnyH_take (i := 0) (oi := ?oi61) (v := ?v61) ?hi61 ?hs61 ?hf61 ?hr61 ?hQ61 (Or.inl ⟨?hg61, ?hy61⟩) hHeld ?rest61
                      case hi61 => simp only [List.getElem?_toArray, List.getElem?_cons_succ, List.getElem?_cons_zero]; rfl
                      case hs61 => kernel_rfl
                      case hf61 => kernel_rfl
                      case hr61 => kernel_rfl
                      case hg61 => rfl
                      case hy61 => (intro w hSw; first | (go_simp; done) | (go_simp; with_reducible rfl))
                      case hQ61 => exact fun _ _ _ h => h
                      try simp only [Act.put, List.setIfInBounds_toArray, List.set_cons_zero, List.set_cons_succ]
                      refine wpAnyH_take (i := 1) (oi := ?oi62) (v := ?v62) ?hi62 ?hs62 ?hf62 ?hr62 ?hQ62 (Or.inl ⟨?hg62, ?hy62⟩) hHeld ?rest62
                      case hi62 => simp only [List.getElem?_toArray, List.getElem?_cons_succ, List.getElem?_cons_zero]; rfl
                      case hs62 => kernel_rfl
                      case hf62 => kernel_rfl
                      case hr62 => kernel_rfl
                      case hg62 => rfl
                      case hy62 => (intro w hSw; first | (go_simp; done) | (go_simp; with_reducible rfl))
                      case hQ62 => exact fun _ _ _ h => h
                      try simp only [Act.put, List.setIfInBounds_toArray, List.set_cons_zero, List.set_cons_succ]
                      refine wpAnyH_take (i := 2) (oi := ?oi63) (v := ?v63) ?hi63 ?hs63 ?hf63 ?hr63 ?hQ63 (Or.inl ⟨?hg63, ?hy63⟩) hHeld ?rest63
                      case hi63 => simp only [List.getElem?_toArray, List.getElem?_cons_succ, List.getElem?_cons_zero]; rfl
                      case hs63 => kernel_rfl
                      case hf63 => kernel_rfl
                      case hr63 => kernel_rfl
                      case hg63 => rfl
                      case hy63 => (intro w hSw; first | (go_simp; done) | (go_simp; with_reducible rfl))
                      case hQ63 => exact fun _ _ _ h => h
                      try simp only [Act.put, List.setIfInBounds_toArray, List.set_cons_zero, List.set_cons_succ]
                      refine wpAnyH_take (i := 3) (oi := ?oi64) (v := ?v64) ?hi64 ?hs64 ?hf64 ?hr64 ?hQ64 (Or.inl ⟨?hg64, ?hy64⟩) hHeld ?rest64
                      case hi64 => simp only [List.getElem?_toArray, List.getElem?_cons_succ, List.getElem?_cons_zero]; rfl
                      case hs64 => kernel_rfl
                      case hf64 => kernel_rfl
                      case hr64 => kernel_rfl
                      case hg64 => rfl
                      case hy64 => (intro w hSw; first | (go_simp; done) | (go_simp; with_reducible rfl))
                      case hQ64 => exact fun _ _ _ h => h
                      try simp only [Act.put, List.setIfInBounds_toArray, List.set_cons_zero, List.set_cons_succ]
                      refine wpAnyH_take (i := 4) (oi := ?oi65) (v := ?v65) ?hi65 ?hs65 ?hf65 ?hr65 ?hQ65 (Or.inl ⟨?hg65, ?hy65⟩) hHeld ?rest65
                      case hi65 => simp only [List.getElem?_toArray, List.getElem?_cons_succ, List.getElem?_cons_zero]; rfl
                      case hs65 => kernel_rfl
                      case hf65 => kernel_rfl
                      case hr65 => kernel_rfl
                      case hg65 => rfl
                      case hy65 => (intro w hSw; first | (go_simp; done) | (go_simp; with_reducible rfl))
                      case hQ65 => exact fun _ _ _ h => h
                      try simp only [Act.put, List.setIfInBounds_toArray, List.set_cons_zero, List.set_cons_succ]
                      refine wpAnyH_take (i := 5) (oi := ?oi66) (v := ?v66) ?hi66 ?hs66 ?hf66 ?hr66 ?hQ66 (Or.inl ⟨?hg66, ?hy66⟩) hHeld ?rest66
                      case hi66 => simp only [List.getElem?_toArray, List.getElem?_cons_succ, List.getElem?_cons_zero]; rfl
                      case hs66 => kernel_rfl
                      case hf66 => kernel_rfl
                      case hr66 => kernel_rfl
                      case hg66 => rfl
                      case hy66 => (intro w hSw; have x0 := (D1.out.grown hSw.1 (by simpa using E4.out)).cell (j1 + 1); rw [bools_at (by rw [trow_len, HSS.out]; omega), trow_at (by have := HSS.out; omega), hr0] at x0; first | (go_simp; done) | (go_simp; with_reducible rfl))
                      case hQ66 => exact fun _ _ _ h => h
                      try simp only [Act.put, List.setIfInBounds_toArray, List.set_cons_zero, List.set_cons_succ]
                      refine wpAnyH_take (i := 6) (oi := ?oi67) (v := ?v67) ?hi67 ?hs67 ?hf67 ?hr67 ?hQ67 (Or.inl ⟨?hg67, ?hy67⟩) hHeld ?rest67
                      case hi67 => simp only [List.getElem?_toArray, List.getElem?_cons_succ, List.getElem?_cons_zero]; rfl
                      case hs67 => kernel_rfl
                      case hf67 => kernel_rfl
                      case hr67 => kernel_rfl
                      case hg67 => rfl
                      case hy67 => (intro w hSw; first | (go_simp; done) | (go_simp; with_reducible rfl))
                      case hQ67 => exact fun _ _ _ h => h
                      try simp only [Act.put, List.setIfInBounds_toArray, List.set_cons_zero, List.set_cons_succ]
                      refine wpAnyH_take (i := 7) (oi := ?oi68) (v := ?v68) ?hi68 ?hs68 ?hf68 ?hr68 ?hQ68 (Or.inl ⟨?hg68, ?hy68⟩) hHeld ?rest68
                      case hi68 => simp only [List.getElem?_toArray, List.getElem?_cons_succ, List.getElem?_cons_zero]; rfl
                      case hs68 => kernel_rfl
                      case hf68 => kernel_rfl
                      case hr68 => kernel_rfl
                      case hg68 => rfl
                      case hy68 => (intro w hSw; first | (go_simp; done) | (go_simp; with_reducible rfl))
                      case hQ68 => exact fun _ _ _ h => h
                      try simp only [Act.put, List.setIfInBounds_toArray, List.set_cons_zero, List.set_cons_succ]
                      refine wpAnyH_take (i := 8) (oi := ?oi69) (v := ?v69) ?hi69 ?hs69 ?hf69 ?hr69 ?hQ69 (Or.inl ⟨?hg69, ?hy69⟩) hHeld ?rest69
                      case hi69 => simp only [List.getElem?_toArray, List.getElem?_cons_succ, List.getElem?_cons_zero]; rfl
                      case hs69 => kernel_rfl
                      case hf69 => kernel_rfl
                      case hr69 => kernel_rfl
                      case hg69 => rfl
                      case hy69 => (intro w hSw; first | (go_simp; done) | (go_simp; with_reducible rfl))
                      case hQ69 => exact fun _ _ _ h => h
                      try simp only [Act.put, List.setIfInBounds_toArray, List.set_cons_zero, List.set_cons_succ]
                      refine wpAnyH_take (i := 9) (oi := ?oi70) (v := ?v70) ?hi70 ?hs70 ?hf70 ?hr70 ?hQ70 (Or.inl ⟨?hg70, ?hy70⟩) hHeld ?rest70
                      case hi70 => simp only [List.getElem?_toArray, List.getElem?_cons_succ, List.getElem?_cons_zero]; rfl
                      case hs70 => kernel_rfl
                      case hf70 => kernel_rfl
                      case hr70 => kernel_rfl
                      case hg70 => rfl
                      case hy70 => (intro w hSw; first | (go_simp; done) | (go_simp; with_reducible rfl))
                      case hQ70 => exact fun _ _ _ h => h
                      try simp only [Act.put, List.setIfInBounds_toArray, List.set_cons_zero, List.set_cons_succ]
                      refine wpAnyH_take (i := 10) (oi := ?oi71) (v := ?v71) ?hi71 ?hs71 ?hf71 ?hr71 ?hQ71 (Or.inl ⟨?hg71, ?hy71⟩) hHeld ?rest71
                      case hi71 => simp only [List.getElem?_toArray, List.getElem?_cons_succ, List.getElem?_cons_zero]; rfl
                      case hs71 => kernel_rfl
                      case hf71 => kernel_rfl
                      case hr71 => kernel_rfl
                      case hg71 => rfl
                      case hy71 => (intro w hSw; first | (go_simp; done) | (go_simp; with_reducible rfl))
                      case hQ71 => exact fun _ _ _ h => h
                      try simp only [Act.put, List.setIfInBounds_toArray, List.set_cons_zero, List.set_cons_succ]
                      refine wpAnyH_take (i := 11) (oi := ?oi72) (v := ?v72) ?hi72 ?hs72 ?hf72 ?hr72 ?hQ72 (Or.inl ⟨?hg72, ?hy72⟩) hHeld ?rest72
                      case hi72 => simp only [List.getElem?_toArray, List.getElem?_cons_succ, List.getElem?_cons_zero]; rfl
                      case hs72 => kernel_rfl
                      case hf72 => kernel_rfl
                      case hr72 => kernel_rfl
                      case hg72 => rfl
                      case hy72 => (intro w hSw; first | (go_simp; done) | (go_simp; with_reducible rfl))
                      case hQ72 => exact fun _ _ _ h => h
                      try simp only [Act.put, List.setIfInBounds_toArray, List.set_cons_zero, List.set_cons_succ]
                      refine wpAnyH_take (i := 12) (oi := ?oi73) (v := ?v73) ?hi73 ?hs73 ?hf73 ?hr73 ?hQ73 (Or.inl ⟨?hg73, ?hy73⟩) hHeld ?rest73
                      case hi73 => simp only [List.getElem?_toArray, List.getElem?_cons_succ, List.getElem?_cons_zero]; rfl
                      case hs73 => kernel_rfl
                      case hf73 => kernel_rfl
                      case hr73 => kernel_rfl
                      case hg73 => rfl
                      case hy73 => (intro w hSw; first | (go_simp; done) | (go_simp; with_reducible rfl))
                      case hQ73 => exact fun _ _ _ h => h
                      try simp only [Act.put, List.setIfInBounds_toArray, List.set_cons_zero, List.set_cons_succ]
                      refine wpAnyH_take (i := 13) (oi := ?oi74) (v := ?v74) ?hi74 ?hs74 ?hf74 ?hr74 ?hQ74 (Or.inl ⟨?hg74, ?hy74⟩) hHeld ?rest74
                      case hi74 => simp only [List.getElem?_toArray, List.getElem?_cons_succ, List.getElem?_cons_zero]; rfl
                      case hs74 => kernel_rfl
                      case hf74 => kernel_rfl
                      case hr74 => kernel_rfl
                      case hg74 => rfl
                      case hy74 => (intro w hSw; first | (go_simp; done) | (go_simp; with_reducible rfl))
                      case hQ74 => exact fun _ _ _ h => h
                      try simp only [Act.put, List.setIfInBounds_toArray, List.set_cons_zero, List.set_cons_succ]
                      refine wpAnyH_take (i := 14) (oi := ?oi75) (v := ?v75) ?hi75 ?hs75 ?hf75 ?hr75 ?hQ75 (Or.inl ⟨?hg75, ?hy75⟩) hHeld ?rest75
                      case hi75 => simp only [List.getElem?_toArray, List.getElem?_cons_succ, List.getElem?_cons_zero]; rfl
                      case hs75 => kernel_rfl
                      case hf75 => kernel_rfl
                      case hr75 => kernel_rfl
                      case hg75 => rfl
                      case hy75 => (intro w hSw; have y0 : w.cell? ⟨g2, j1, none⟩ = some (.bool false) := hSw.2; first | (go_simp; done) | (go_simp; with_reducible rfl))
                      case hQ75 => exact fun _ _ _ h => h
                      try simp only [Act.put, List.setIfInBounds_toArray, List.set_cons_zero, List.set_cons_succ]
                      refine wpAnyH_take (i := 15) (oi := ?oi76) (v := ?v76) ?hi76 ?hs76 ?hf76 ?hr76 ?hQ76 (Or.inl ⟨?hg76, ?hy76⟩) hHeld ?rest76
                      case hi76 => simp only [List.getElem?_toArray, List.getElem?_cons_succ, List.getElem?_cons_zero]; rfl
                      case hs76 => kernel_rfl
                      case hf76 => kernel_rfl
                      case hr76 => kernel_rfl
                      case hg76 => rfl
                      case hy76 => (intro w hSw; first | (go_simp; done) | (go_simp; with_reducible rfl))
                      case hQ76 => exact fun _ _ _ h => h
                      try simp only [Act.put, List.setIfInBounds_toArray, List.set_cons_zero, List.set_cons_succ]
                      refine wpAnyH_take (i := 16) (oi := ?oi77) (v := ?v77) ?hi77 ?hs77 ?hf77 ?hr77 ?hQ77 (Or.inl ⟨?hg77, ?hy77⟩) hHeld ?rest77
                      case hi77 => simp only [List.getElem?_toArray, List.getElem?_cons_succ, List.getElem?_cons_zero]; rfl
                      case hs77 => kernel_rfl
                      case hf77 => kernel_rfl
                      case hr77 => kernel_rfl
                      case hg77 => rfl
                      case hy77 => (intro w hSw; first | (go_simp; done) | (go_simp; with_reducible rfl))
                      case hQ77 => exact fun _ _ _ h => h
                      try simp only [Act.put, List.setIfInBounds_toArray, List.set_cons_zero, List.set_cons_succ]
                      refine wpAnyH_take (i := 17) (oi := ?oi78) (v := _) ?hi78 ?hs78 ?hf78 ?hr78 ?hQ78 (Or.inr ⟨?hg78, rfl⟩) hHeld ?rest78
                      case hi78 => simp only [List.getElem?_toArray, List.getElem?_cons_succ, List.getElem?_cons_zero]; rfl
                      case hs78 => kernel_rfl
                      case hf78 => kernel_rfl
                      case hr78 => kernel_rfl
                      case hg78 => rfl
                      case hQ78 => exact fun _ _ _ h => h
                      try simp only [Act.put, List.setIfInBounds_toArray, List.set_cons_zero, List.set_cons_succ]
                      refine wpAnyH_take (i := 18) (oi := ?oi79) (v := _) ?hi79 ?hs79 ?hf79 ?hr79 ?hQ79 (Or.inr ⟨?hg79, rfl⟩) hHeld ?rest79
                      case hi79 => simp only [List.getElem?_toArray, List.getElem?_cons_succ, List.getElem?_cons_zero]; rfl
                      case hs79 => kernel_rfl
                      case hf79 => kernel_rfl
                      case hr79 => kernel_rfl
                      case hg79 => rfl
                      case hQ79 => exact fun _ _ _ h => h
                      try simp only [Act.put, List.setIfInBounds_toArray, List.set_cons_zero, List.set_cons_succ]
                      refine wpAnyH_take (i := 19) (oi := ?oi80) (v := _) ?hi80 ?hs80 ?hf80 ?hr80 ?hQ80 (Or.inr ⟨?hg80, rfl⟩) hHeld ?rest80
                      case hi80 => simp only [List.getElem?_toArray, List.getElem?_cons_succ, List.getElem?_cons_zero]; rfl
                      case hs80 => kernel_rfl
                      case hf80 => kernel_rfl
                      case hr80 => kernel_rfl
                      case hg80 => rfl
                      case hQ80 => exact fun _ _ _ h => h
                      try simp only [Act.put, List.setIfInBounds_toArray, List.set_cons_zero, List.set_cons_succ]
                      refine wpAnyH_take (i := 20) (oi := ?oi81) (v := _) ?hi81 ?hs81 ?hf81 ?hr81 ?hQ81 (Or.inr ⟨?hg81, rfl⟩) hHeld ?rest81
                      case hi81 => simp only [List.getElem?_toArray, List.getElem?_cons_succ, List.getElem?_cons_zero]; rfl
                      case hs81 => kernel_rfl
                      case hf81 => kernel_rfl
                      case hr81 => kernel_rfl
                      case hg81 => rfl
                      case hQ81 => exact fun _ _ _ h => h
                      try simp only [Act.put, List.setIfInBounds_toArray, List.set_cons_zero, List.set_cons_succ]
                      refine wpAnyH_take (i := 21) (oi := ?oi82) (v := _) ?hi82 ?hs82 ?hf82 ?hr82 ?hQ82 (Or.inr ⟨?hg82, rfl⟩) hHeld ?rest82
                      case hi82 => simp only [List.getElem?_toArray, List.getElem?_cons_succ, List.getElem?_cons_zero]; rfl
                      case hs82 => kernel_rfl
                      case hf82 => kernel_rfl
                      case hr82 => kernel_rfl
                      case hg82 => rfl
                      case hQ82 => exact fun _ _ _ h => h
                      try simp only [Act.put, List.setIfInBounds_toArray, List.set_cons_zero, List.set_cons_succ]
                      refine wpAnyH_take (i := 22) (oi := ?oi83) (v := _) ?hi83 ?hs83 ?hf83 ?hr83 ?hQ83 (Or.inr ⟨?hg83, rfl⟩) hHeld ?rest83
                      case hi83 => simp only [List.getElem?_toArray, List.getElem?_cons_succ, List.getElem?_cons_zero]; rfl
                      case hs83 => kernel_rfl
                      case hf83 => kernel_rfl
                      case hr83 => kernel_rfl
                      case hg83 => rfl
                      case hQ83 => exact fun _ _ _ h => h
                      try simp only [Act.put, List.setIfInBounds_toArray, List.set_cons_zero, List.set_cons_succ]
                      refine wpAnyH_take (i := 23) (oi := ?oi84) (v := _) ?hi84 ?hs84 ?hf84 ?hr84 ?hQ84 (Or.inr ⟨?hg84, rfl⟩) hHeld ?rest84
                      case hi84 => simp only [List.getElem?_toArray, List.getElem?_cons_succ, List.getElem?_cons_zero]; rfl
                      case hs84 => kernel_rfl
                      case hf84 => kernel_rfl
                      case hr84 => kernel_rfl
                      case hg84 => rfl
                      case hQ84 => exact fun _ _ _ h => h
                      try simp only [Act.put, List.setIfInBounds_toArray, List.set_cons_zero, List.set_cons_succ]
                      refine wpAnyH_take (i := 24) (oi := ?oi85) (v := _) ?hi85 ?hs85 ?hf85 ?hr85 ?hQ85 (Or.inr ⟨?hg85, rfl⟩) hHeld ?rest85
                      case hi85 => simp only [List.getElem?_toArray, List.getElem?_cons_succ, List.getElem?_cons_zero]; rfl
                      case hs85 => kernel_rfl
                      case hf85 => kernel_rfl
                      case hr85 => kernel_rfl
                      case hg85 => rfl
                      case hQ85 => exact fun _ _ _ h => h
                      try simp only [Act.put, List.setIfInBounds_toArray, List.set_cons_zero, List.set_cons_succ]
                      refine wpAnyH_take (i := 25) (oi := ?oi86) (v := _) ?hi86 ?hs86 ?hf86 ?hr86 ?hQ86 (Or.inr ⟨?hg86, rfl⟩) hHeld ?rest86
                      case hi86 => simp only [List.getElem?_toArray, List.getElem?_cons_succ, List.getElem?_cons_zero]; rfl
                      case hs86 => kernel_rfl
                      case hf86 => kernel_rfl
                      case hr86 => kernel_rfl
                      case hg86 => rfl
                      case hQ86 => exact fun _ _ _ h => h
                      try simp only [Act.put, List.setIfInBounds_toArray, List.set_cons_zero, List.set_cons_succ]
                      refine wpAnyH_take (i := 26) (oi := ?oi87) (v := ?v87) ?hi87 ?hs87 ?hf87 ?hr87 ?hQ87 (Or.inl ⟨?hg87, ?hy87⟩) hHeld ?rest87
                      case hi87 => simp only [List.getElem?_toArray, List.getElem?_cons_succ, List.getElem?_cons_zero]; rfl
                      case hs87 => kernel_rfl
                      case hf87 => kernel_rfl
                      case hr87 => kernel_rfl
                      case hg87 => rfl
                      case hy87 => (intro w hSw; first | (go_simp; done) | (go_simp; with_reducible rfl))
                      case hQ87 => exact fun _ _ _ h => h
                      try simp only [Act.put, List.setIfInBounds_toArray, List.set_cons_zero, List.set_cons_succ]
                      refine wpAnyH_take (i := 27) (oi := ?oi88) (v := ?v88) ?hi88 ?hs88 ?hf88 ?hr88 ?hQ88 (Or.inl ⟨?hg88, ?hy88⟩) hHeld ?rest88
                      case hi88 => simp only [List.getElem?_toArray, List.getElem?_cons_succ, List.getElem?_cons_zero]; rfl
                      case hs88 => kernel_rfl
                      case hf88 => kernel_rfl
                      case hr88 => kernel_rfl
                      case hg88 => rfl
                      case hy88 => (intro w hSw; first | (go_simp; done) | (go_simp; with_reducible rfl))
                      case hQ88 => exact fun _ _ _ h => h
                      try simp only [Act.put, List.setIfInBounds_toArray, List.set_cons_zero, List.set_cons_succ]
                      refine wpAnyH_take (i := 28) (oi := ?oi89) (v := ?v89) ?hi89 ?hs89 ?hf89 ?hr89 ?hQ89 (Or.inl ⟨?hg89, ?hy89⟩) hHeld ?rest89
                      case hi89 => simp only [List.getElem?_toArray, List.getElem?_cons_succ, List.getElem?_cons_zero]; rfl
                      case hs89 => kernel_rfl
                      case hf89 => kernel_rfl
                      case hr89 => kernel_rfl
                      case hg89 => rfl
                      case hy89 => (intro w hSw; first | (go_simp; done) | (go_simp; with_reducible rfl))
                      case hQ89 => exact fun _ _ _ h => h
                      try simp only [Act.put, List.setIfInBounds_toArray, List.set_cons_zero, List.set_cons_succ]
                      refine wpAnyH_ready (rs := [29]) (by kernel_rfl) (by simp) ?_
                      refine AllReadyH.cons (o := ?oi90) ?hi90 (fun K hK => ?_) AllReadyH.nil
                      case hi90 => simp only [List.getElem?_toArray, List.getElem?_cons_succ, List.getElem?_cons_zero]; rfl
                      go_simp
                      refine hK.out _ _ (⟨grown_set (gb (Below.refl _ _).drew _) _ _, (cell_other _ (by omega)).trans CN.out⟩) (fun hHeld2 => ?_)
                      clear hK K hHeld
                      have hHeld := hHeld2
                      clear hHeld2
                      try simp only [Act.put, List.setIfInBounds_toArray, List.set_cons_zero, List.set_cons_succ]
                      refine wpAnyH_done (by kernel_rfl) ?_ _
                      clear hHeld c9 f9
                      go_wp2_with fail
                      go_roundw
                      case rel => exact ⟨(j1 + 1) + 1, by first | rfl | go_num, by omega, by rw [← tpar_set L s.data.toList (k + 1) (by have := HSS.out; omega) (by rw [KT.out, hn0, Bool.false_and]), ← bools_set]; exact (D2.out.set _ _).drew, (D1.out.other E4.out _).drew, by rw [← HA.out]; exact (sl_set DS.out E3.out _ _).drew, (Below.setCell DB.out hsz1 _).drew⟩
                      case measure => simp [intOf] <;> omega
                    | true =>
                      rw [hn0] at hnb
                      have CN := Lib.hid hnb
                      clear hnb
                      refine wp_region_held_drew (S := fun w' => wr.grownBy w' (some g2) ∧ w'.cell? ⟨g2, j1, none⟩ = some (.bool true)) (by kernel_rfl) (⟨gb (Below.refl _ _).drew _, CN.out⟩) (fun hHeld => ?_)
                      refine wpAnyH_take (i := 0) (oi := ?oi91) (v := ?v91) ?hi91 ?hs91 ?hf91 ?hr91 ?hQ91 (Or.inl ⟨?hg91, ?hy91⟩) hHeld ?rest91
                      case hi91 => simp only [List.getElem?_toArray, List.getElem?_cons_succ, List.getElem?_cons_zero]; rfl
                      case hs91 => kernel_rfl
                      case hf91 => kernel_rfl
                      case hr91 => kernel_rfl
                      case hg91 => rfl
                      case hy91 => (intro w hSw; first | (go_simp; done) | (go_simp; with_reducible rfl))
                      case hQ91 => exact fun _ _ _ h => h
                      try simp only [Act.put, List.setIfInBounds_toArray, List.set_cons_zero, List.set_cons_succ]
                      refine wpAnyH_take (i := 1) (oi := ?oi92) (v := ?v92) ?hi92 ?hs92 ?hf92 ?hr92 ?hQ92 (Or.inl ⟨?hg92, ?hy92⟩) hHeld ?rest92
                      case hi92 => simp only [List.getElem?_toArray, List.getElem?_cons_succ, List.getElem?_cons_zero]; rfl
                      case hs92 => kernel_rfl
                      case hf92 => kernel_rfl
                      case hr92 => kernel_rfl
                      case hg92 => rfl
                      case hy92 => (intro w hSw; first | (go_simp; done) | (go_simp; with_reducible rfl))
                      case hQ92 => exact fun _ _ _ h => h
                      try simp only [Act.put, List.setIfInBounds_toArray, List.set_cons_zero, List.set_cons_succ]
                      refine wpAnyH_take (i := 2) (oi := ?oi93) (v := ?v93) ?hi93 ?hs93 ?hf93 ?hr93 ?hQ93 (Or.inl ⟨?hg93, ?hy93⟩) hHeld ?rest93
                      case hi93 => simp only [List.getElem?_toArray, List.getElem?_cons_succ, List.getElem?_cons_zero]; rfl
                      case hs93 => kernel_rfl
                      case hf93 => kernel_rfl
                      case hr93 => kernel_rfl
                      case hg93 => rfl
                      case hy93 => (intro w hSw; first | (go_simp; done) | (go_simp; with_reducible rfl))
                      case hQ93 => exact fun _ _ _ h => h
                      try simp only [Act.put, List.setIfInBounds_toArray, List.set_cons_zero, List.set_cons_succ]
                      refine wpAnyH_take (i := 3) (oi := ?oi94) (v := ?v94) ?hi94 ?hs94 ?hf94 ?hr94 ?hQ94 (Or.inl ⟨?hg94, ?hy94⟩) hHeld ?rest94
                      case hi94 => simp only [List.getElem?_toArray, List.getElem?_cons_succ, List.getElem?_cons_zero]; rfl
                      case hs94 => kernel_rfl
                      case hf94 => kernel_rfl
                      case hr94 => kernel_rfl
                      case hg94 => rfl
                      case hy94 => (intro w hSw; first | (go_simp; done) | (go_simp; with_reducible rfl))
                      case hQ94 => exact fun _ _ _ h => h
                      try simp only [Act.put, List.setIfInBounds_toArray, List.set_cons_zero, List.set_cons_succ]
                      refine wpAnyH_take (i := 4) (oi := ?oi95) (v := ?v95) ?hi95 ?hs95 ?hf95 ?hr95 ?hQ95 (Or.inl ⟨?hg95, ?hy95⟩) hHeld ?rest95
                      case hi95 => simp only [List.getElem?_toArray, List.getElem?_cons_succ, List.getElem?_cons_zero]; rfl
                      case hs95 => kernel_rfl
                      case hf95 => kernel_rfl
                      case hr95 => kernel_rfl
                      case hg95 => rfl
                      case hy95 => (intro w hSw; first | (go_simp; done) | (go_simp; with_reducible rfl))
                      case hQ95 => exact fun _ _ _ h => h
                      try simp only [Act.put, List.setIfInBounds_toArray, List.set_cons_zero, List.set_cons_succ]
                      refine wpAnyH_take (i := 5) (oi := ?oi96) (v := ?v96) ?hi96 ?hs96 ?hf96 ?hr96 ?hQ96 (Or.inl ⟨?hg96, ?hy96⟩) hHeld ?rest96
                      case hi96 => simp only [List.getElem?_toArray, List.getElem?_cons_succ, List.getElem?_cons_zero]; rfl
                      case hs96 => kernel_rfl
                      case hf96 => kernel_rfl
                      case hr96 => kernel_rfl
                      case hg96 => rfl
                      case hy96 => (intro w hSw; have x0 := (D1.out.grown hSw.1 (by simpa using E4.out)).cell (j1 + 1); rw [bools_at (by rw [trow_len, HSS.out]; omega), trow_at (by have := HSS.out; omega), hr0] at x0; first | (go_simp; done) | (go_simp; with_reducible rfl))
                      case hQ96 => exact fun _ _ _ h => h
                      try simp only [Act.put, List.setIfInBounds_toArray, List.set_cons_zero, List.set_cons_succ]
                      refine wpAnyH_take (i := 6) (oi := ?oi97) (v := ?v97) ?hi97 ?hs97 ?hf97 ?hr97 ?hQ97 (Or.inl ⟨?hg97, ?hy97⟩) hHeld ?rest97
                      case hi97 => simp only [List.getElem?_toArray, List.getElem?_cons_succ, List.getElem?_cons_zero]; rfl
                      case hs97 => kernel_rfl
                      case hf97 => kernel_rfl
                      case hr97 => kernel_rfl
                      case hg97 => rfl
                      case hy97 => (intro w hSw; first | (go_simp; done) | (go_simp; with_reducible rfl))
                      case hQ97 => exact fun _ _ _ h => h
                      try simp only [Act.put, List.setIfInBounds_toArray, List.set_cons_zero, List.set_cons_succ]
                      refine wpAnyH_take (i := 7) (oi := ?oi98) (v := ?v98) ?hi98 ?hs98 ?hf98 ?hr98 ?hQ98 (Or.inl ⟨?hg98, ?hy98⟩) hHeld ?rest98
                      case hi98 => simp only [List.getElem?_toArray, List.getElem?_cons_succ, List.getElem?_cons_zero]; rfl
                      case hs98 => kernel_rfl
                      case hf98 => kernel_rfl
                      case hr98 => kernel_rfl
                      case hg98 => rfl
                      case hy98 => (intro w hSw; first | (go_simp; done) | (go_simp; with_reducible rfl))
                      case hQ98 => exact fun _ _ _ h => h
                      try simp only [Act.put, List.setIfInBounds_toArray, List.set_cons_zero, List.set_cons_succ]
                      refine wpAnyH_take (i := 8) (oi := ?oi99) (v := ?v99) ?hi99 ?hs99 ?hf99 ?hr99 ?hQ99 (Or.inl ⟨?hg99, ?hy99⟩) hHeld ?rest99
                      case hi99 => simp only [List.getElem?_toArray, List.getElem?_cons_succ, List.getElem?_cons_zero]; rfl
                      case hs99 => kernel_rfl
                      case hf99 => kernel_rfl
                      case hr99 => kernel_rfl
                      case hg99 => rfl
                      case hy99 => (intro w hSw; first | (go_simp; done) | (go_simp; with_reducible rfl))
                      case hQ99 => exact fun _ _ _ h => h
                      try simp only [Act.put, List.setIfInBounds_toArray, List.set_cons_zero, List.set_cons_succ]
                      refine wpAnyH_take (i := 9) (oi := ?oi100) (v := ?v100) ?hi100 ?hs100 ?hf100 ?hr100 ?hQ100 (Or.inl ⟨?hg100, ?hy100⟩) hHeld ?rest100
                      case hi100 => simp only [List.getElem?_toArray, List.getElem?_cons_succ, List.getElem?_cons_zero]; rfl
                      case hs100 => kernel_rfl
                      case hf100 => kernel_rfl
                      case hr100 => kernel_rfl
                      case hg100 => rfl
                      case hy100 => (intro w hSw; first | (go_simp; done) | (go_simp; with_reducible rfl))
                      case hQ100 => exact fun _ _ _ h => h
                      try simp only [Act.put, List.setIfInBounds_toArray, List.set_cons_zero, List.set_cons_succ]
                      refine wpAnyH_take (i := 10) (oi := ?oi101) (v := ?v101) ?hi101 ?hs101 ?hf101 ?hr101 ?hQ101 (Or.inl ⟨?hg101, ?hy101⟩) hHeld ?rest101
                      case hi101 => simp only [List.getElem?_toArray, List.getElem?_cons_succ, List.getElem?_cons_zero]; rfl
                      case hs101 => kernel_rfl
                      case hf101 => kernel_rfl
                      case hr101 => kernel_rfl
                      case hg101 => rfl
                      case hy101 => (intro w hSw; first | (go_simp; done) | (go_simp; with_reducible rfl))
                      case hQ101 => exact fun _ _ _ h => h
                      try simp only [Act.put, List.setIfInBounds_toArray, List.set_cons_zero, List.set_cons_succ]
                      refine wpAnyH_take (i := 11) (oi := ?oi102) (v := ?v102) ?hi102 ?hs102 ?hf102 ?hr102 ?hQ102 (Or.inl ⟨?hg102, ?hy102⟩) hHeld ?rest102
                      case hi102 => simp only [List.getElem?_toArray, List.getElem?_cons_succ, List.getElem?_cons_zero]; rfl
                      case hs102 => kernel_rfl
                      case hf102 => kernel_rfl
                      case hr102 => kernel_rfl
                      case hg102 => rfl
                      case hy102 => (intro w hSw; first | (go_simp; done) | (go_simp; with_reducible rfl))
                      case hQ102 => exact fun _ _ _ h => h
                      try simp only [Act.put, List.setIfInBounds_toArray, List.set_cons_zero, List.set_cons_succ]
                      refine wpAnyH_take (i := 12) (oi := ?oi103) (v := ?v103) ?hi103 ?hs103 ?hf103 ?hr103 ?hQ103 (Or.inl ⟨?hg103, ?hy103⟩) hHeld ?rest103
                      case hi103 => simp only [List.getElem?_toArray, List.getElem?_cons_succ, List.getElem?_cons_zero]; rfl
                      case hs103 => kernel_rfl
                      case hf103 => kernel_rfl
                      case hr103 => kernel_rfl
                      case hg103 => rfl
                      case hy103 => (intro w hSw; first | (go_simp; done) | (go_simp; with_reducible rfl))
                      case hQ103 => exact fun _ _ _ h => h
                      try simp only [Act.put, List.setIfInBounds_toArray, List.set_cons_zero, List.set_cons_succ]
                      refine wpAnyH_take (i := 13) (oi := ?oi104) (v := ?v104) ?hi104 ?hs104 ?hf104 ?hr104 ?hQ104 (Or.inl ⟨?hg104, ?hy104⟩) hHeld ?rest104
                      case hi104 => simp only [List.getElem?_toArray, List.getElem?_cons_succ, List.getElem?_cons_zero]; rfl
                      case hs104 => kernel_rfl
                      case hf104 => kernel_rfl
                      case hr104 => kernel_rfl
                      case hg104 => rfl
                      case hy104 => (intro w hSw; first | (go_simp; done) | (go_simp; with_reducible rfl))
                      case hQ104 => exact fun _ _ _ h => h
                      try simp only [Act.put, List.setIfInBounds_toArray, List.set_cons_zero, List.set_cons_succ]
                      refine wpAnyH_take (i := 14) (oi := ?oi105) (v := ?v105) ?hi105 ?hs105 ?hf105 ?hr105 ?hQ105 (Or.inl ⟨?hg105, ?hy105⟩) hHeld ?rest105
                      case hi105 => simp only [List.getElem?_toArray, List.getElem?_cons_succ, List.getElem?_cons_zero]; rfl
                      case hs105 => kernel_rfl
                      case hf105 => kernel_rfl
                      case hr105 => kernel_rfl
                      case hg105 => rfl
                      case hy105 => (intro w hSw; have y0 : w.cell? ⟨g2, j1, none⟩ = some (.bool true) := hSw.2; first | (go_simp; done) | (go_simp; with_reducible rfl))
                      case hQ105 => exact fun _ _ _ h => h
                      try simp only [Act.put, List.setIfInBounds_toArray, List.set_cons_zero, List.set_cons_succ]
                      refine wpAnyH_take (i := 15) (oi := ?oi106) (v := ?v106) ?hi106 ?hs106 ?hf106 ?hr106 ?hQ106 (Or.inl ⟨?hg106, ?hy106⟩) hHeld ?rest106
                      case hi106 => simp only [List.getElem?_toArray, List.getElem?_cons_succ, List.getElem?_cons_zero]; rfl
                      case hs106 => kernel_rfl
                      case hf106 => kernel_rfl
                      case hr106 => kernel_rfl
                      case hg106 => rfl
                      case hy106 => (intro w hSw; first | (go_simp; done) | (go_simp; with_reducible rfl))
                      case hQ106 => exact fun _ _ _ h => h
                      try simp only [Act.put, List.setIfInBounds_toArray, List.set_cons_zero, List.set_cons_succ]
                      refine wpAnyH_take (i := 16) (oi := ?oi107) (v := ?v107) ?hi107 ?hs107 ?hf107 ?hr107 ?hQ107 (Or.inl ⟨?hg107, ?hy107⟩) hHeld ?rest107
                      case hi107 => simp only [List.getElem?_toArray, List.getElem?_cons_succ, List.getElem?_cons_zero]; rfl
                      case hs107 => kernel_rfl
                      case hf107 => kernel_rfl
                      case hr107 => kernel_rfl
                      case hg107 => rfl
                      case hy107 => (intro w hSw; first | (go_simp; done) | (go_simp; with_reducible rfl))
                      case hQ107 => exact fun _ _ _ h => h
                      try simp only [Act.put, List.setIfInBounds_toArray, List.set_cons_zero, List.set_cons_succ]
                      refine wpAnyH_take (i := 17) (oi := ?oi108) (v := ?v108) ?hi108 ?hs108 ?hf108 ?hr108 ?hQ108 (Or.inl ⟨?hg108, ?hy108⟩) hHeld ?rest108
                      case hi108 => simp only [List.getElem?_toArray, List.getElem?_cons_succ, List.getElem?_cons_zero]; rfl
                      case hs108 => kernel_rfl
                      case hf108 => kernel_rfl
                      case hr108 => kernel_rfl
                      case hg108 => rfl
                      case hy108 => (intro w hSw; first | (go_simp; done) | (go_simp; with_reducible rfl))
                      case hQ108 => exact fun _ _ _ h => h
                      try simp only [Act.put, List.setIfInBounds_toArray, List.set_cons_zero, List.set_cons_succ]
                      refine wpAnyH_take (i := 18) (oi := ?oi109) (v := ?v109) ?hi109 ?hs109 ?hf109 ?hr109 ?hQ109 (Or.inl ⟨?hg109, ?hy109⟩) hHeld ?rest109
                      case hi109 => simp only [List.getElem?_toArray, List.getElem?_cons_succ, List.getElem?_cons_zero]; rfl
                      case hs109 => kernel_rfl
                      case hf109 => kernel_rfl
                      case hr109 => kernel_rfl
                      case hg109 => rfl
                      case hy109 => (intro w hSw; first | (go_simp; done) | (go_simp; with_reducible rfl))
                      case hQ109 => exact fun _ _ _ h => h
                      try simp only [Act.put, List.setIfInBounds_toArray, List.set_cons_zero, List.set_cons_succ]
                      refine wpAnyH_take (i := 19) (oi := ?oi110) (v := ?v110) ?hi110 ?hs110 ?hf110 ?hr110 ?hQ110 (Or.inl ⟨?hg110, ?hy110⟩) hHeld ?rest110
                      case hi110 => simp only [List.getElem?_toArray, List.getElem?_cons_succ, List.getElem?_cons_zero]; rfl
                      case hs110 => kernel_rfl
                      case hf110 => kernel_rfl
                      case hr110 => kernel_rfl
                      case hg110 => rfl
                      case hy110 => (intro w hSw; first | (go_simp; done) | (go_simp; with_reducible rfl))
                      case hQ110 => exact fun _ _ _ h => h
                      try simp only [Act.put, List.setIfInBounds_toArray, List.set_cons_zero, List.set_cons_succ]
                      refine wpAnyH_take (i := 20) (oi := ?oi111) (v := (.agg (encR x).toArray)) ?hi111 ?hs111 ?hf111 ?hr111 ?hQ111 (Or.inl ⟨?hg111, ?hy111⟩) hHeld ?rest111
                      case hi111 => simp only [List.getElem?_toArray, List.getElem?_cons_succ, List.getElem?_cons_zero]; rfl
                      case hs111 => kernel_rfl
                      case hf111 => kernel_rfl
                      case hr111 => kernel_rfl
                      case hg111 => rfl
                      case hy111 => (intro w hSw; exact run_load_op 105 (.tmp 74) (by exact rfl) b (o + k * 259) (by exact rfl) (encR x) _ (fun j v hj => DG.out.grown hSw.1 HBL.out HBN.out j v hj) Try.underlying105 rfl HSZE.out)
                      case hQ111 => exact fun _ _ _ h => h
                      try simp only [Act.put, List.setIfInBounds_toArray, List.set_cons_zero, List.set_cons_succ]
                      refine wpAnyH_take (i := 21) (oi := ?oi112) (v := ?v112) ?hi112 ?hs112 ?hf112 ?hr112 ?hQ112 (Or.inl ⟨?hg112, ?hy112⟩) hHeld ?rest112
                      case hi112 => simp only [List.getElem?_toArray, List.getElem?_cons_succ, List.getElem?_cons_zero]; rfl
                      case hs112 => kernel_rfl
                      case hf112 => kernel_rfl
                      case hr112 => kernel_rfl
                      case hg112 => rfl
                      case hy112 => (intro w hSw; first | (go_simp; done) | (go_simp; with_reducible rfl))
                      case hQ112 => exact fun _ _ _ h => h
                      try simp only [Act.put, List.setIfInBounds_toArray, List.set_cons_zero, List.set_cons_succ]
                      refine wpAnyH_take (i := 22) (oi := ?oi113) (v := ?v113) ?hi113 ?hs113 ?hf113 ?hr113 ?hQ113 (Or.inl ⟨?hg113, ?hy113⟩) hHeld ?rest113
                      case hi113 => simp only [List.getElem?_toArray, List.getElem?_cons_succ, List.getElem?_cons_zero]; rfl
                      case hs113 => kernel_rfl
                      case hf113 => kernel_rfl
                      case hr113 => kernel_rfl
                      case hg113 => rfl
                      case hy113 => (intro w hSw; first | (go_simp; done) | (go_simp; with_reducible rfl))
                      case hQ113 => exact fun _ _ _ h => h
                      try simp only [Act.put, List.setIfInBounds_toArray, List.set_cons_zero, List.set_cons_succ]
                      refine wpAnyH_take (i := 23) (oi := ?oi114) (v := ?v114) ?hi114 ?hs114 ?hf114 ?hr114 ?hQ114 (Or.inl ⟨?hg114, ?hy114⟩) hHeld ?rest114
                      case hi114 => simp only [List.getElem?_toArray, List.getElem?_cons_succ, List.getElem?_cons_zero]; rfl
                      case hs114 => kernel_rfl
                      case hf114 => kernel_rfl
                      case hr114 => kernel_rfl
                      case hg114 => rfl
                      case hy114 => (intro w hSw; first | (go_simp; done) | (go_simp; with_reducible rfl))
                      case hQ114 => exact fun _ _ _ h => h
                      try simp only [Act.put, List.setIfInBounds_toArray, List.set_cons_zero, List.set_cons_succ]
                      refine wpAnyH_take (i := 24) (oi := ?oi115) (v := ?v115) ?hi115 ?hs115 ?hf115 ?hr115 ?hQ115 (Or.inl ⟨?hg115, ?hy115⟩) hHeld ?rest115
                      case hi115 => simp only [List.getElem?_toArray, List.getElem?_cons_succ, List.getElem?_cons_zero]; rfl
                      case hs115 => kernel_rfl
                      case hf115 => kernel_rfl
                      case hr115 => kernel_rfl
                      case hg115 => rfl
                      case hy115 => (intro w hSw; first | (go_simp; done) | (go_simp; with_reducible rfl))
                      case hQ115 => exact fun _ _ _ h => h
                      try simp only [Act.put, List.setIfInBounds_toArray, List.set_cons_zero, List.set_cons_succ]
                      refine wpAnyH_ready (rs := [25]) (by kernel_rfl) (by simp) ?_
                      refine AllReadyH.cons (o := ?oi116) ?hi116 (fun K hK => ?_) AllReadyH.nil
                      case hi116 => simp only [List.getElem?_toArray, List.getElem?_cons_succ, List.getElem?_cons_zero]; rfl
                      go_simp; go_at_call 88; refine (refTakes_any x cc wr.drew HXS.out).mono ?_; rintro e w5 ⟨rfl, hb5⟩; go_wp2_with fail
                      have hb6 : Below wr.heap.size wr w5 := (Below.refl _ _).drew.trans hb5
                      refine hK.out _ _ (⟨gb hb6 _, (cell_below CN.out hb6)⟩) (fun hHeld2 => ?_)
                      clear hK K hHeld
                      have hHeld := hHeld2
                      clear hHeld2
                      try simp only [Act.put, List.setIfInBounds_toArray, List.set_cons_zero, List.set_cons_succ]
                      have HB6 := Lib.hid hb6
                      clear hb5 hb6 c9 f9
                      refine wpAnyH_take (i := 26) (oi := ?oi117) (v := ?v117) ?hi117 ?hs117 ?hf117 ?hr117 ?hQ117 (Or.inl ⟨?hg117, ?hy117⟩) hHeld ?rest117
                      case hi117 => simp only [List.getElem?_toArray, List.getElem?_cons_succ, List.getElem?_cons_zero]; rfl
                      case hs117 => kernel_rfl
                      case hf117 => kernel_rfl
                      case hr117 => kernel_rfl
                      case hg117 => rfl
                      case hy117 => (intro w hSw; first | (go_simp; done) | (go_simp; with_reducible rfl))
                      case hQ117 => exact fun _ _ _ h => h
                      try simp only [Act.put, List.setIfInBounds_toArray, List.set_cons_zero, List.set_cons_succ]
                      refine wpAnyH_take (i := 27) (oi := ?oi118) (v := ?v118) ?hi118 ?hs118 ?hf118 ?hr118 ?hQ118 (Or.inl ⟨?hg118, ?hy118⟩) hHeld ?rest118
                      case hi118 => simp only [List.getElem?_toArray, List.getElem?_cons_succ, List.getElem?_cons_zero]; rfl
                      case hs118 => kernel_rfl
                      case hf118 => kernel_rfl
                      case hr118 => kernel_rfl
                      case hg118 => rfl
                      case hy118 => (intro w hSw; first | (go_simp; done) | (go_simp; with_reducible rfl))
                      case hQ118 => exact fun _ _ _ h => h
                      try simp only [Act.put, List.setIfInBounds_toArray, List.set_cons_zero, List.set_cons_succ]
                      refine wpAnyH_take (i := 28) (oi := ?oi119) (v := ?v119) ?hi119 ?hs119 ?hf119 ?hr119 ?hQ119 (Or.inl ⟨?hg119, ?hy119⟩) hHeld ?rest119
                      case hi119 => simp only [List.getElem?_toArray, List.getElem?_cons_succ, List.getElem?_cons_zero]; rfl
                      case hs119 => kernel_rfl
                      case hf119 => kernel_rfl
                      case hr119 => kernel_rfl
                      case hg119 => rfl
                      case hy119 => (intro w hSw; first | (go_simp; done) | (go_simp; with_reducible rfl))
                      case hQ119 => exact fun _ _ _ h => h
                      try simp only [Act.put, List.setIfInBounds_toArray, List.set_cons_zero, List.set_cons_succ]
                      have c9 := (D2.out.below HB6.out).cell (j1 + 1)
                      rw [bools_at (by rw [tpar_len, HSS.out]; omega)] at c9
                      have f9 := (D2.out.below HB6.out).frozen (j1 + 1)
                      refine wpAnyH_ready (rs := [29]) (by kernel_rfl) (by simp) ?_
                      refine AllReadyH.cons (o := ?oi120) ?hi120 (fun K hK => ?_) AllReadyH.nil
                      case hi120 => simp only [List.getElem?_toArray, List.getElem?_cons_succ, List.getElem?_cons_zero]; rfl
                      go_simp
                      refine hK.out _ _ (⟨grown_set (gb HB6.out _) _ _, (cell_other _ (by omega)).trans (cell_below CN.out HB6.out)⟩) (fun hHeld2 => ?_)
                      clear hK K hHeld
                      have hHeld := hHeld2
                      clear hHeld2
                      try simp only [Act.put, List.setIfInBounds_toArray, List.set_cons_zero, List.set_cons_succ]
                      refine wpAnyH_done (by kernel_rfl) ?_ _
                      clear hHeld c9 f9
                      go_wp2_with fail
                      go_roundw
                      case rel => exact ⟨(j1 + 1) + 1, by first | rfl | go_num, by omega, by rw [← tpar_set L s.data.toList (k + 1) (by have := HSS.out; omega) (by rw [KT.out, hn0, Bool.true_and]), ← bools_set]; exact (D2.out.below HB6.out).set _ _, (D1.out.below HB6.out).other E4.out _, by rw [← HA.out]; exact sl_set (DS.out.below HB6.out) E3.out _ _, Below.setCell (DB.out.trans ((HB6.out).mono DB.out.size)) hsz1 _⟩
                      case measure => simp [intOf] <;> omega
              · by_cases z1 : x.k = 1
                · have k0 : wr.cell? ⟨b, o + k * 259, none⟩ = some (.int .i64 3) := by rw [k0', z1]; rfl
                  have SG := Lib.hid (show starG x = true by unfold starG; rw [z1]; rfl)
                  clear z1 z2 k0'
                  go_wp2_with fail
                  cases hr0 : tab L s.data.toList k j with
                  | true =>
                    refine wp_region_held_drew (S := fun w' => wr.grownBy w' (some g2)) (by kernel_rfl) ((gb (Below.refl _ _).drew _)) (fun hHeld => ?_)
                    refine wpAnyH_take (i := 0) (oi := ?oi121) (v := ?v121) ?hi121 ?hs121 ?hf121 ?hr121 ?hQ121 (Or.inl ⟨?hg121, ?hy121⟩) hHeld ?rest121
                    case hi121 => simp only [List.getElem?_toArray, List.getElem?_cons_succ, List.getElem?_cons_zero]; rfl
                    case hs121 => kernel_rfl
                    case hf121 => kernel_rfl
                    case hr121 => kernel_rfl
                    case hg121 => rfl
                    case hy121 => (intro w hSw; first | (go_simp; done) | (go_simp; with_reducible rfl))
                    case hQ121 => exact fun _ _ _ h => h
                    try simp only [Act.put, List.setIfInBounds_toArray, List.set_cons_zero, List.set_cons_succ]
                    refine wpAnyH_take (i := 1) (oi := ?oi122) (v := ?v122) ?hi122 ?hs122 ?hf122 ?hr122 ?hQ122 (Or.inl ⟨?hg122, ?hy122⟩) hHeld ?rest122
                    case hi122 => simp only [List.getElem?_toArray, List.getElem?_cons_succ, List.getElem?_cons_zero]; rfl
                    case hs122 => kernel_rfl
                    case hf122 => kernel_rfl
                    case hr122 => kernel_rfl
                    case hg122 => rfl
                    case hy122 => (intro w hSw; first | (go_simp; done) | (go_simp; with_reducible rfl))
                    case hQ122 => exact fun _ _ _ h => h
                    try simp only [Act.put, List.setIfInBounds_toArray, List.set_cons_zero, List.set_cons_succ]
                    refine wpAnyH_take (i := 2) (oi := ?oi123) (v := ?v123) ?hi123 ?hs123 ?hf123 ?hr123 ?hQ123 (Or.inl ⟨?hg123, ?hy123⟩) hHeld ?rest123
                    case hi123 => simp only [List.getElem?_toArray, List.getElem?_cons_succ, List.getElem?_cons_zero]; rfl
                    case hs123 => kernel_rfl
                    case hf123 => kernel_rfl
                    case hr123 => kernel_rfl
                    case hg123 => rfl
                    case hy123 => (intro w hSw; first | (go_simp; done) | (go_simp; with_reducible rfl))
                    case hQ123 => exact fun _ _ _ h => h
                    try simp only [Act.put, List.setIfInBounds_toArray, List.set_cons_zero, List.set_cons_succ]
                    refine wpAnyH_take (i := 3) (oi := ?oi124) (v := ?v124) ?hi124 ?hs124 ?hf124 ?hr124 ?hQ124 (Or.inl ⟨?hg124, ?hy124⟩) hHeld ?rest124
                    case hi124 => simp only [List.getElem?_toArray, List.getElem?_cons_succ, List.getElem?_cons_zero]; rfl
                    case hs124 => kernel_rfl
                    case hf124 => kernel_rfl
                    case hr124 => kernel_rfl
                    case hg124 => rfl
                    case hy124 => (intro w hSw; first | (go_simp; done) | (go_simp; with_reducible rfl))
                    case hQ124 => exact fun _ _ _ h => h
                    try simp only [Act.put, List.setIfInBounds_toArray, List.set_cons_zero, List.set_cons_succ]
                    refine wpAnyH_take (i := 4) (oi := ?oi125) (v := ?v125) ?hi125 ?hs125 ?hf125 ?hr125 ?hQ125 (Or.inl ⟨?hg125, ?hy125⟩) hHeld ?rest125
                    case hi125 => simp only [List.getElem?_toArray, List.getElem?_cons_succ, List.getElem?_cons_zero]; rfl
                    case hs125 => kernel_rfl
                    case hf125 => kernel_rfl
                    case hr125 => kernel_rfl
                    case hg125 => rfl
                    case hy125 => (intro w hSw; first | (go_simp; done) | (go_simp; with_reducible rfl))
                    case hQ125 => exact fun _ _ _ h => h
                    try simp only [Act.put, List.setIfInBounds_toArray, List.set_cons_zero, List.set_cons_succ]
                    refine wpAnyH_take (i := 5) (oi := ?oi126) (v := ?v126) ?hi126 ?hs126 ?hf126 ?hr126 ?hQ126 (Or.inl ⟨?hg126, ?hy126⟩) hHeld ?rest126
                    case hi126 => simp only [List.getElem?_toArray, List.getElem?_cons_succ, List.getElem?_cons_zero]; rfl
                    case hs126 => kernel_rfl
                    case hf126 => kernel_rfl
                    case hr126 => kernel_rfl
                    case hg126 => rfl
                    case hy126 => (intro w hSw; have x0 := (D1.out.grown hSw (by simpa using E4.out)).cell j; rw [bools_at (by rw [trow_len, HSS.out]; omega), trow_at (by have := HSS.out; omega), hr0] at x0; first | (go_simp; done) | (go_simp; with_reducible rfl))
                    case hQ126 => exact fun _ _ _ h => h
                    try simp only [Act.put, List.setIfInBounds_toArray, List.set_cons_zero, List.set_cons_succ]
                    refine wpAnyH_take (i := 6) (oi := ?oi127) (v := ?v127) ?hi127 ?hs127 ?hf127 ?hr127 ?hQ127 (Or.inl ⟨?hg127, ?hy127⟩) hHeld ?rest127
                    case hi127 => simp only [List.getElem?_toArray, List.getElem?_cons_succ, List.getElem?_cons_zero]; rfl
                    case hs127 => kernel_rfl
                    case hf127 => kernel_rfl
                    case hr127 => kernel_rfl
                    case hg127 => rfl
                    case hy127 => (intro w hSw; first | (go_simp; done) | (go_simp; with_reducible rfl))
                    case hQ127 => exact fun _ _ _ h => h
                    try simp only [Act.put, List.setIfInBounds_toArray, List.set_cons_zero, List.set_cons_succ]
                    refine wpAnyH_take (i := 7) (oi := ?oi128) (v := _) ?hi128 ?hs128 ?hf128 ?hr128 ?hQ128 (Or.inr ⟨?hg128, rfl⟩) hHeld ?rest128
                    case hi128 => simp only [List.getElem?_toArray, List.getElem?_cons_succ, List.getElem?_cons_zero]; rfl
                    case hs128 => kernel_rfl
                    case hf128 => kernel_rfl
                    case hr128 => kernel_rfl
                    case hg128 => rfl
                    case hQ128 => exact fun _ _ _ h => h
                    try simp only [Act.put, List.setIfInBounds_toArray, List.set_cons_zero, List.set_cons_succ]
                    refine wpAnyH_take (i := 8) (oi := ?oi129) (v := _) ?hi129 ?hs129 ?hf129 ?hr129 ?hQ129 (Or.inr ⟨?hg129, rfl⟩) hHeld ?rest129
                    case hi129 => simp only [List.getElem?_toArray, List.getElem?_cons_succ, List.getElem?_cons_zero]; rfl
                    case hs129 => kernel_rfl
                    case hf129 => kernel_rfl
                    case hr129 => kernel_rfl
                    case hg129 => rfl
                    case hQ129 => exact fun _ _ _ h => h
                    try simp only [Act.put, List.setIfInBounds_toArray, List.set_cons_zero, List.set_cons_succ]
                    refine wpAnyH_take (i := 9) (oi := ?oi130) (v := _) ?hi130 ?hs130 ?hf130 ?hr130 ?hQ130 (Or.inr ⟨?hg130, rfl⟩) hHeld ?rest130
                    case hi130 => simp only [List.getElem?_toArray, List.getElem?_cons_succ, List.getElem?_cons_zero]; rfl
                    case hs130 => kernel_rfl
                    case hf130 => kernel_rfl
                    case hr130 => kernel_rfl
                    case hg130 => rfl
                    case hQ130 => exact fun _ _ _ h => h
                    try simp only [Act.put, List.setIfInBounds_toArray, List.set_cons_zero, List.set_cons_succ]
                    refine wpAnyH_take (i := 10) (oi := ?oi131) (v := _) ?hi131 ?hs131 ?hf131 ?hr131 ?hQ131 (Or.inr ⟨?hg131, rfl⟩) hHeld ?rest131
                    case hi131 => simp only [List.getElem?_toArray, List.getElem?_cons_succ, List.getElem?_cons_zero]; rfl
                    case hs131 => kernel_rfl
                    case hf131 => kernel_rfl
                    case hr131 => kernel_rfl
                    case hg131 => rfl
                    case hQ131 => exact fun _ _ _ h => h
                    try simp only [Act.put, List.setIfInBounds_toArray, List.set_cons_zero, List.set_cons_succ]
                    refine wpAnyH_take (i := 11) (oi := ?oi132) (v := _) ?hi132 ?hs132 ?hf132 ?hr132 ?hQ132 (Or.inr ⟨?hg132, rfl⟩) hHeld ?rest132
                    case hi132 => simp only [List.getElem?_toArray, List.getElem?_cons_succ, List.getElem?_cons_zero]; rfl
                    case hs132 => kernel_rfl
                    case hf132 => kernel_rfl
                    case hr132 => kernel_rfl
                    case hg132 => rfl
                    case hQ132 => exact fun _ _ _ h => h
                    try simp only [Act.put, List.setIfInBounds_toArray, List.set_cons_zero, List.set_cons_succ]
                    refine wpAnyH_take (i := 12) (oi := ?oi133) (v := _) ?hi133 ?hs133 ?hf133 ?hr133 ?hQ133 (Or.inr ⟨?hg133, rfl⟩) hHeld ?rest133
                    case hi133 => simp only [List.getElem?_toArray, List.getElem?_cons_succ, List.getElem?_cons_zero]; rfl
                    case hs133 => kernel_rfl
                    case hf133 => kernel_rfl
                    case hr133 => kernel_rfl
                    case hg133 => rfl
                    case hQ133 => exact fun _ _ _ h => h
                    try simp only [Act.put, List.setIfInBounds_toArray, List.set_cons_zero, List.set_cons_succ]
                    refine wpAnyH_take (i := 13) (oi := ?oi134) (v := _) ?hi134 ?hs134 ?hf134 ?hr134 ?hQ134 (Or.inr ⟨?hg134, rfl⟩) hHeld ?rest134
                    case hi134 => simp only [List.getElem?_toArray, List.getElem?_cons_succ, List.getElem?_cons_zero]; rfl
                    case hs134 => kernel_rfl
                    case hf134 => kernel_rfl
                    case hr134 => kernel_rfl
                    case hg134 => rfl
                    case hQ134 => exact fun _ _ _ h => h
                    try simp only [Act.put, List.setIfInBounds_toArray, List.set_cons_zero, List.set_cons_succ]
                    refine wpAnyH_take (i := 14) (oi := ?oi135) (v := _) ?hi135 ?hs135 ?hf135 ?hr135 ?hQ135 (Or.inr ⟨?hg135, rfl⟩) hHeld ?rest135
                    case hi135 => simp only [List.getElem?_toArray, List.getElem?_cons_succ, List.getElem?_cons_zero]; rfl
                    case hs135 => kernel_rfl
                    case hf135 => kernel_rfl
                    case hr135 => kernel_rfl
                    case hg135 => rfl
                    case hQ135 => exact fun _ _ _ h => h
                    try simp only [Act.put, List.setIfInBounds_toArray, List.set_cons_zero, List.set_cons_succ]
                    refine wpAnyH_take (i := 15) (oi := ?oi136) (v := _) ?hi136 ?hs136 ?hf136 ?hr136 ?hQ136 (Or.inr ⟨?hg136, rfl⟩) hHeld ?rest136
                    case hi136 => simp only [List.getElem?_toArray, List.getElem?_cons_succ, List.getElem?_cons_zero]; rfl
                    case hs136 => kernel_rfl
                    case hf136 => kernel_rfl
                    case hr136 => kernel_rfl
                    case hg136 => rfl
                    case hQ136 => exact fun _ _ _ h => h
                    try simp only [Act.put, List.setIfInBounds_toArray, List.set_cons_zero, List.set_cons_succ]
                    refine wpAnyH_take (i := 16) (oi := ?oi137) (v := _) ?hi137 ?hs137 ?hf137 ?hr137 ?hQ137 (Or.inr ⟨?hg137, rfl⟩) hHeld ?rest137
                    case hi137 => simp only [List.getElem?_toArray, List.getElem?_cons_succ, List.getElem?_cons_zero]; rfl
                    case hs137 => kernel_rfl
                    case hf137 => kernel_rfl
                    case hr137 => kernel_rfl
                    case hg137 => rfl
                    case hQ137 => exact fun _ _ _ h => h
                    try simp only [Act.put, List.setIfInBounds_toArray, List.set_cons_zero, List.set_cons_succ]
                    refine wpAnyH_take (i := 17) (oi := ?oi138) (v := _) ?hi138 ?hs138 ?hf138 ?hr138 ?hQ138 (Or.inr ⟨?hg138, rfl⟩) hHeld ?rest138
                    case hi138 => simp only [List.getElem?_toArray, List.getElem?_cons_succ, List.getElem?_cons_zero]; rfl
                    case hs138 => kernel_rfl
                    case hf138 => kernel_rfl
                    case hr138 => kernel_rfl
                    case hg138 => rfl
                    case hQ138 => exact fun _ _ _ h => h
                    try simp only [Act.put, List.setIfInBounds_toArray, List.set_cons_zero, List.set_cons_succ]
                    refine wpAnyH_take (i := 18) (oi := ?oi139) (v := _) ?hi139 ?hs139 ?hf139 ?hr139 ?hQ139 (Or.inr ⟨?hg139, rfl⟩) hHeld ?rest139
                    case hi139 => simp only [List.getElem?_toArray, List.getElem?_cons_succ, List.getElem?_cons_zero]; rfl
                    case hs139 => kernel_rfl
                    case hf139 => kernel_rfl
                    case hr139 => kernel_rfl
                    case hg139 => rfl
                    case hQ139 => exact fun _ _ _ h => h
                    try simp only [Act.put, List.setIfInBounds_toArray, List.set_cons_zero, List.set_cons_succ]
                    refine wpAnyH_take (i := 19) (oi := ?oi140) (v := _) ?hi140 ?hs140 ?hf140 ?hr140 ?hQ140 (Or.inr ⟨?hg140, rfl⟩) hHeld ?rest140
                    case hi140 => simp only [List.getElem?_toArray, List.getElem?_cons_succ, List.getElem?_cons_zero]; rfl
                    case hs140 => kernel_rfl
                    case hf140 => kernel_rfl
                    case hr140 => kernel_rfl
                    case hg140 => rfl
                    case hQ140 => exact fun _ _ _ h => h
                    try simp only [Act.put, List.setIfInBounds_toArray, List.set_cons_zero, List.set_cons_succ]
                    refine wpAnyH_take (i := 20) (oi := ?oi141) (v := _) ?hi141 ?hs141 ?hf141 ?hr141 ?hQ141 (Or.inr ⟨?hg141, rfl⟩) hHeld ?rest141
                    case hi141 => simp only [List.getElem?_toArray, List.getElem?_cons_succ, List.getElem?_cons_zero]; rfl
                    case hs141 => kernel_rfl
                    case hf141 => kernel_rfl
                    case hr141 => kernel_rfl
                    case hg141 => rfl
                    case hQ141 => exact fun _ _ _ h => h
                    try simp only [Act.put, List.setIfInBounds_toArray, List.set_cons_zero, List.set_cons_succ]
                    refine wpAnyH_take (i := 21) (oi := ?oi142) (v := _) ?hi142 ?hs142 ?hf142 ?hr142 ?hQ142 (Or.inr ⟨?hg142, rfl⟩) hHeld ?rest142
                    case hi142 => simp only [List.getElem?_toArray, List.getElem?_cons_succ, List.getElem?_cons_zero]; rfl
                    case hs142 => kernel_rfl
                    case hf142 => kernel_rfl
                    case hr142 => kernel_rfl
                    case hg142 => rfl
                    case hQ142 => exact fun _ _ _ h => h
                    try simp only [Act.put, List.setIfInBounds_toArray, List.set_cons_zero, List.set_cons_succ]
                    refine wpAnyH_take (i := 22) (oi := ?oi143) (v := _) ?hi143 ?hs143 ?hf143 ?hr143 ?hQ143 (Or.inr ⟨?hg143, rfl⟩) hHeld ?rest143
                    case hi143 => simp only [List.getElem?_toArray, List.getElem?_cons_succ, List.getElem?_cons_zero]; rfl
                    case hs143 => kernel_rfl
                    case hf143 => kernel_rfl
                    case hr143 => kernel_rfl
                    case hg143 => rfl
                    case hQ143 => exact fun _ _ _ h => h
                    try simp only [Act.put, List.setIfInBounds_toArray, List.set_cons_zero, List.set_cons_succ]
                    refine wpAnyH_take (i := 23) (oi := ?oi144) (v := _) ?hi144 ?hs144 ?hf144 ?hr144 ?hQ144 (Or.inr ⟨?hg144, rfl⟩) hHeld ?rest144
                    case hi144 => simp only [List.getElem?_toArray, List.getElem?_cons_succ, List.getElem?_cons_zero]; rfl
                    case hs144 => kernel_rfl
                    case hf144 => kernel_rfl
                    case hr144 => kernel_rfl
                    case hg144 => rfl
                    case hQ144 => exact fun _ _ _ h => h
                    try simp only [Act.put, List.setIfInBounds_toArray, List.set_cons_zero, List.set_cons_succ]
                    refine wpAnyH_take (i := 24) (oi := ?oi145) (v := _) ?hi145 ?hs145 ?hf145 ?hr145 ?hQ145 (Or.inr ⟨?hg145, rfl⟩) hHeld ?rest145
                    case hi145 => simp only [List.getElem?_toArray, List.getElem?_cons_succ, List.getElem?_cons_zero]; rfl
                    case hs145 => kernel_rfl
                    case hf145 => kernel_rfl
                    case hr145 => kernel_rfl
                    case hg145 => rfl
                    case hQ145 => exact fun _ _ _ h => h
                    try simp only [Act.put, List.setIfInBounds_toArray, List.set_cons_zero, List.set_cons_succ]
                    refine wpAnyH_take (i := 25) (oi := ?oi146) (v := _) ?hi146 ?hs146 ?hf146 ?hr146 ?hQ146 (Or.inr ⟨?hg146, rfl⟩) hHeld ?rest146
                    case hi146 => simp only [List.getElem?_toArray, List.getElem?_cons_succ, List.getElem?_cons_zero]; rfl
                    case hs146 => kernel_rfl
                    case hf146 => kernel_rfl
                    case hr146 => kernel_rfl
                    case hg146 => rfl
                    case hQ146 => exact fun _ _ _ h => h
                    try simp only [Act.put, List.setIfInBounds_toArray, List.set_cons_zero, List.set_cons_succ]
                    refine wpAnyH_take (i := 26) (oi := ?oi147) (v := _) ?hi147 ?hs147 ?hf147 ?hr147 ?hQ147 (Or.inr ⟨?hg147, rfl⟩) hHeld ?rest147
                    case hi147 => simp only [List.getElem?_toArray, List.getElem?_cons_succ, List.getElem?_cons_zero]; rfl
                    case hs147 => kernel_rfl
                    case hf147 => kernel_rfl
                    case hr147 => kernel_rfl
                    case hg147 => rfl
                    case hQ147 => exact fun _ _ _ h => h
                    try simp only [Act.put, List.setIfInBounds_toArray, List.set_cons_zero, List.set_cons_succ]
                    refine wpAnyH_take (i := 27) (oi := ?oi148) (v := ?v148) ?hi148 ?hs148 ?hf148 ?hr148 ?hQ148 (Or.inl ⟨?hg148, ?hy148⟩) hHeld ?rest148
                    case hi148 => simp only [List.getElem?_toArray, List.getElem?_cons_succ, List.getElem?_cons_zero]; rfl
                    case hs148 => kernel_rfl
                    case hf148 => kernel_rfl
                    case hr148 => kernel_rfl
                    case hg148 => rfl
                    case hy148 => (intro w hSw; first | (go_simp; done) | (go_simp; with_reducible rfl))
                    case hQ148 => exact fun _ _ _ h => h
                    try simp only [Act.put, List.setIfInBounds_toArray, List.set_cons_zero, List.set_cons_succ]
                    refine wpAnyH_take (i := 28) (oi := ?oi149) (v := ?v149) ?hi149 ?hs149 ?hf149 ?hr149 ?hQ149 (Or.inl ⟨?hg149, ?hy149⟩) hHeld ?rest149
                    case hi149 => simp only [List.getElem?_toArray, List.getElem?_cons_succ, List.getElem?_cons_zero]; rfl
                    case hs149 => kernel_rfl
                    case hf149 => kernel_rfl
                    case hr149 => kernel_rfl
                    case hg149 => rfl
                    case hy149 => (intro w hSw; first | (go_simp; done) | (go_simp; with_reducible rfl))
                    case hQ149 => exact fun _ _ _ h => h
                    try simp only [Act.put, List.setIfInBounds_toArray, List.set_cons_zero, List.set_cons_succ]
                    refine wpAnyH_ready (rs := [29]) (by kernel_rfl) (by simp) ?_
                    refine AllReadyH.cons (o := ?oi150) ?hi150 (fun K hK => ?_) AllReadyH.nil
                    case hi150 => simp only [List.getElem?_toArray, List.getElem?_cons_succ, List.getElem?_cons_zero]; rfl
                    go_simp
                    refine hK.out _ _ ((grown_set (gb (Below.refl _ _).drew _) _ _)) (fun hHeld2 => ?_)
                    clear hK K hHeld
                    have hHeld := hHeld2
                    clear hHeld2
                    try simp only [Act.put, List.setIfInBounds_toArray, List.set_cons_zero, List.set_cons_succ]
                    refine wpAnyH_done (by kernel_rfl) ?_ _
                    clear hHeld c9 f9
                    go_wp2_with fail
                    go_roundw
                    case rel => exact ⟨j + 1, by first | rfl | go_num, by omega, by rw [← tpar_set L s.data.toList (k + 1) (by have := HSS.out; omega) (tab_star_t HX.out SG.out hr0), ← bools_set]; exact (D2.out.set _ _).drew, (D1.out.other E4.out _).drew, by rw [← HA.out]; exact (sl_set DS.out E3.out _ _).drew, (Below.setCell DB.out hsz1 _).drew⟩
                    case measure => simp [intOf] <;> omega
                  | false =>
                    cases j with
                    | zero =>
                      refine wp_region_held_drew (S := fun w' => wr.grownBy w' (some g2)) (by kernel_rfl) ((gb (Below.refl _ _).drew _)) (fun hHeld => ?_)
                      refine wpAnyH_take (i := 0) (oi := ?oi151) (v := ?v151) ?hi151 ?hs151 ?hf151 ?hr151 ?hQ151 (Or.inl ⟨?hg151, ?hy151⟩) hHeld ?rest151
                      case hi151 => simp only [List.getElem?_toArray, List.getElem?_cons_succ, List.getElem?_cons_zero]; rfl
                      case hs151 => kernel_rfl
                      case hf151 => kernel_rfl
                      case hr151 => kernel_rfl
                      case hg151 => rfl
                      case hy151 => (intro w hSw; first | (go_simp; done) | (go_simp; with_reducible rfl))
                      case hQ151 => exact fun _ _ _ h => h
                      try simp only [Act.put, List.setIfInBounds_toArray, List.set_cons_zero, List.set_cons_succ]
                      refine wpAnyH_take (i := 1) (oi := ?oi152) (v := ?v152) ?hi152 ?hs152 ?hf152 ?hr152 ?hQ152 (Or.inl ⟨?hg152, ?hy152⟩) hHeld ?rest152
                      case hi152 => simp only [List.getElem?_toArray, List.getElem?_cons_succ, List.getElem?_cons_zero]; rfl
                      case hs152 => kernel_rfl
                      case hf152 => kernel_rfl
                      case hr152 => kernel_rfl
                      case hg152 => rfl
                      case hy152 => (intro w hSw; first | (go_simp; done) | (go_simp; with_reducible rfl))
                      case hQ152 => exact fun _ _ _ h => h
                      try simp only [Act.put, List.setIfInBounds_toArray, List.set_cons_zero, List.set_cons_succ]
                      refine wpAnyH_take (i := 2) (oi := ?oi153) (v := ?v153) ?hi153 ?hs153 ?hf153 ?hr153 ?hQ153 (Or.inl ⟨?hg153, ?hy153⟩) hHeld ?rest153
                      case hi153 => simp only [List.getElem?_toArray, List.getElem?_cons_succ, List.getElem?_cons_zero]; rfl
                      case hs153 => kernel_rfl
                      case hf153 => kernel_rfl
                      case hr153 => kernel_rfl
                      case hg153 => rfl
                      case hy153 => (intro w hSw; first | (go_simp; done) | (go_simp; with_reducible rfl))
                      case hQ153 => exact fun _ _ _ h => h
                      try simp only [Act.put, List.setIfInBounds_toArray, List.set_cons_zero, List.set_cons_succ]
                      refine wpAnyH_take (i := 3) (oi := ?oi154) (v := ?v154) ?hi154 ?hs154 ?hf154 ?hr154 ?hQ154 (Or.inl ⟨?hg154, ?hy154⟩) hHeld ?rest154
                      case hi154 => simp only [List.getElem?_toArray, List.getElem?_cons_succ, List.getElem?_cons_zero]; rfl
                      case hs154 => kernel_rfl
                      case hf154 => kernel_rfl
                      case hr154 => kernel_rfl
                      case hg154 => rfl
                      case hy154 => (intro w hSw; first | (go_simp; done) | (go_simp; with_reducible rfl))
                      case hQ154 => exact fun _ _ _ h => h
                      try simp only [Act.put, List.setIfInBounds_toArray, List.set_cons_zero, List.set_cons_succ]
                      refine wpAnyH_take (i := 4) (oi := ?oi155) (v := ?v155) ?hi155 ?hs155 ?hf155 ?hr155 ?hQ155 (Or.inl ⟨?hg155, ?hy155⟩) hHeld ?rest155
                      case hi155 => simp only [List.getElem?_toArray, List.getElem?_cons_succ, List.getElem?_cons_zero]; rfl
                      case hs155 => kernel_rfl
                      case hf155 => kernel_rfl
                      case hr155 => kernel_rfl
                      case hg155 => rfl
                      case hy155 => (intro w hSw; first | (go_simp; done) | (go_simp; with_reducible rfl))
                      case hQ155 => exact fun _ _ _ h => h
                      try simp only [Act.put, List.setIfInBounds_toArray, List.set_cons_zero, List.set_cons_succ]
                      refine wpAnyH_take (i := 5) (oi := ?oi156) (v := ?v156) ?hi156 ?hs156 ?hf156 ?hr156 ?hQ156 (Or.inl ⟨?hg156, ?hy156⟩) hHeld ?rest156
                      case hi156 => simp only [List.getElem?_toArray, List.getElem?_cons_succ, List.getElem?_cons_zero]; rfl
                      case hs156 => kernel_rfl
                      case hf156 => kernel_rfl
                      case hr156 => kernel_rfl
                      case hg156 => rfl
                      case hy156 => (intro w hSw; have x0 := (D1.out.grown hSw (by simpa using E4.out)).cell 0; rw [bools_at (by rw [trow_len, HSS.out]; omega), trow_at (by have := HSS.out; omega), hr0] at x0; first | (go_simp; done) | (go_simp; with_reducible rfl))
                      case hQ156 => exact fun _ _ _ h => h
                      try simp only [Act.put, List.setIfInBounds_toArray, List.set_cons_zero, List.set_cons_succ]
                      refine wpAnyH_take (i := 6) (oi := ?oi157) (v := ?v157) ?hi157 ?hs157 ?hf157 ?hr157 ?hQ157 (Or.inl ⟨?hg157, ?hy157⟩) hHeld ?rest157
                      case hi157 => simp only [List.getElem?_toArray, List.getElem?_cons_succ, List.getElem?_cons_zero]; rfl
                      case hs157 => kernel_rfl
                      case hf157 => kernel_rfl
                      case hr157 => kernel_rfl
                      case hg157 => rfl
                      case hy157 => (intro w hSw; first | (go_simp; done) | (go_simp; with_reducible rfl))
                      case hQ157 => exact fun _ _ _ h => h
                      try simp only [Act.put, List.setIfInBounds_toArray, List.set_cons_zero, List.set_cons_succ]
                      refine wpAnyH_take (i := 7) (oi := ?oi158) (v := ?v158) ?hi158 ?hs158 ?hf158 ?hr158 ?hQ158 (Or.inl ⟨?hg158, ?hy158⟩) hHeld ?rest158
                      case hi158 => simp only [List.getElem?_toArray, List.getElem?_cons_succ, List.getElem?_cons_zero]; rfl
                      case hs158 => kernel_rfl
                      case hf158 => kernel_rfl
                      case hr158 => kernel_rfl
                      case hg158 => rfl
                      case hy158 => (intro w hSw; first | (go_simp; done) | (go_simp; with_reducible rfl))
                      case hQ158 => exact fun _ _ _ h => h
                      try simp only [Act.put, List.setIfInBounds_toArray, List.set_cons_zero, List.set_cons_succ]
                      refine wpAnyH_take (i := 8) (oi := ?oi159) (v := ?v159) ?hi159 ?hs159 ?hf159 ?hr159 ?hQ159 (Or.inl ⟨?hg159, ?hy159⟩) hHeld ?rest159
                      case hi159 => simp only [List.getElem?_toArray, List.getElem?_cons_succ, List.getElem?_cons_zero]; rfl
                      case hs159 => kernel_rfl
                      case hf159 => kernel_rfl
                      case hr159 => kernel_rfl
                      case hg159 => rfl
                      case hy159 => (intro w hSw; first | (go_simp; done) | (go_simp; with_reducible rfl))
                      case hQ159 => exact fun _ _ _ h => h
                      try simp only [Act.put, List.setIfInBounds_toArray, List.set_cons_zero, List.set_cons_succ]
                      refine wpAnyH_take (i := 9) (oi := ?oi160) (v := ?v160) ?hi160 ?hs160 ?hf160 ?hr160 ?hQ160 (Or.inl ⟨?hg160, ?hy160⟩) hHeld ?rest160
                      case hi160 => simp only [List.getElem?_toArray, List.getElem?_cons_succ, List.getElem?_cons_zero]; rfl
                      case hs160 => kernel_rfl
                      case hf160 => kernel_rfl
                      case hr160 => kernel_rfl
                      case hg160 => rfl
                      case hy160 => (intro w hSw; first | (go_simp; done) | (go_simp; with_reducible rfl))
                      case hQ160 => exact fun _ _ _ h => h
                      try simp only [Act.put, List.setIfInBounds_toArray, List.set_cons_zero, List.set_cons_succ]
                      refine wpAnyH_take (i := 10) (oi := ?oi161) (v := _) ?hi161 ?hs161 ?hf161 ?hr161 ?hQ161 (Or.inr ⟨?hg161, rfl⟩) hHeld ?rest161
                      case hi161 => simp only [List.getElem?_toArray, List.getElem?_cons_succ, List.getElem?_cons_zero]; rfl
                      case hs161 => kernel_rfl
                      case hf161 => kernel_rfl
                      case hr161 => kernel_rfl
                      case hg161 => rfl
                      case hQ161 => exact fun _ _ _ h => h
                      try simp only [Act.put, List.setIfInBounds_toArray, List.set_cons_zero, List.set_cons_succ]
                      refine wpAnyH_take (i := 11) (oi := ?oi162) (v := _) ?hi162 ?hs162 ?hf162 ?hr162 ?hQ162 (Or.inr ⟨?hg162, rfl⟩) hHeld ?rest162
                      case hi162 => simp only [List.getElem?_toArray, List.getElem?_cons_succ, List.getElem?_cons_zero]; rfl
                      case hs162 => kernel_rfl
                      case hf162 => kernel_rfl
                      case hr162 => kernel_rfl
                      case hg162 => rfl
                      case hQ162 => exact fun _ _ _ h => h
                      try simp only [Act.put, List.setIfInBounds_toArray, List.set_cons_zero, List.set_cons_succ]
                      refine wpAnyH_take (i := 12) (oi := ?oi163) (v := _) ?hi163 ?hs163 ?hf163 ?hr163 ?hQ163 (Or.inr ⟨?hg163, rfl⟩) hHeld ?rest163
                      case hi163 => simp only [List.getElem?_toArray, List.getElem?_cons_succ, List.getElem?_cons_zero]; rfl
                      case hs163 => kernel_rfl
                      case hf163 => kernel_rfl
                      case hr163 => kernel_rfl
                      case hg163 => rfl
                      case hQ163 => exact fun _ _ _ h => h
                      try simp only [Act.put, List.setIfInBounds_toArray, List.set_cons_zero, List.set_cons_succ]
                      refine wpAnyH_take (i := 13) (oi := ?oi164) (v := _) ?hi164 ?hs164 ?hf164 ?hr164 ?hQ164 (Or.inr ⟨?hg164, rfl⟩) hHeld ?rest164
                      case hi164 => simp only [List.getElem?_toArray, List.getElem?_cons_succ, List.getElem?_cons_zero]; rfl
                      case hs164 => kernel_rfl
                      case hf164 => kernel_rfl
                      case hr164 => kernel_rfl
                      case hg164 => rfl
                      case hQ164 => exact fun _ _ _ h => h
                      try simp only [Act.put, List.setIfInBounds_toArray, List.set_cons_zero, List.set_cons_succ]
                      refine wpAnyH_take (i := 14) (oi := ?oi165) (v := _) ?hi165 ?hs165 ?hf165 ?hr165 ?hQ165 (Or.inr ⟨?hg165, rfl⟩) hHeld ?rest165
                      case hi165 => simp only [List.getElem?_toArray, List.getElem?_cons_succ, List.getElem?_cons_zero]; rfl
                      case hs165 => kernel_rfl
                      case hf165 => kernel_rfl
                      case hr165 => kernel_rfl
                      case hg165 => rfl
                      case hQ165 => exact fun _ _ _ h => h
                      try simp only [Act.put, List.setIfInBounds_toArray, List.set_cons_zero, List.set_cons_succ]
                      refine wpAnyH_take (i := 15) (oi := ?oi166) (v := ?v166) ?hi166 ?hs166 ?hf166 ?hr166 ?hQ166 (Or.inl ⟨?hg166, ?hy166⟩) hHeld ?rest166
                      case hi166 => simp only [List.getElem?_toArray, List.getElem?_cons_succ, List.getElem?_cons_zero]; rfl
                      case hs166 => kernel_rfl
                      case hf166 => kernel_rfl
                      case hr166 => kernel_rfl
                      case hg166 => rfl
                      case hy166 => (intro w hSw; first | (go_simp; done) | (go_simp; with_reducible rfl))
                      case hQ166 => exact fun _ _ _ h => h
                      try simp only [Act.put, List.setIfInBounds_toArray, List.set_cons_zero, List.set_cons_succ]
                      refine wpAnyH_take (i := 16) (oi := ?oi167) (v := ?v167) ?hi167 ?hs167 ?hf167 ?hr167 ?hQ167 (Or.inl ⟨?hg167, ?hy167⟩) hHeld ?rest167
                      case hi167 => simp only [List.getElem?_toArray, List.getElem?_cons_succ, List.getElem?_cons_zero]; rfl
                      case hs167 => kernel_rfl
                      case hf167 => kernel_rfl
                      case hr167 => kernel_rfl
                      case hg167 => rfl
                      case hy167 => (intro w hSw; first | (go_simp; done) | (go_simp; with_reducible rfl))
                      case hQ167 => exact fun _ _ _ h => h
                      try simp only [Act.put, List.setIfInBounds_toArray, List.set_cons_zero, List.set_cons_succ]
                      refine wpAnyH_take (i := 17) (oi := ?oi168) (v := _) ?hi168 ?hs168 ?hf168 ?hr168 ?hQ168 (Or.inr ⟨?hg168, rfl⟩) hHeld ?rest168
                      case hi168 => simp only [List.getElem?_toArray, List.getElem?_cons_succ, List.getElem?_cons_zero]; rfl
                      case hs168 => kernel_rfl
                      case hf168 => kernel_rfl
                      case hr168 => kernel_rfl
                      case hg168 => rfl
                      case hQ168 => exact fun _ _ _ h => h
                      try simp only [Act.put, List.setIfInBounds_toArray, List.set_cons_zero, List.set_cons_succ]
                      refine wpAnyH_take (i := 18) (oi := ?oi169) (v := _) ?hi169 ?hs169 ?hf169 ?hr169 ?hQ169 (Or.inr ⟨?hg169, rfl⟩) hHeld ?rest169
                      case hi169 => simp only [List.getElem?_toArray, List.getElem?_cons_succ, List.getElem?_cons_zero]; rfl
                      case hs169 => kernel_rfl
                      case hf169 => kernel_rfl
                      case hr169 => kernel_rfl
                      case hg169 => rfl
                      case hQ169 => exact fun _ _ _ h => h
                      try simp only [Act.put, List.setIfInBounds_toArray, List.set_cons_zero, List.set_cons_succ]
                      refine wpAnyH_take (i := 19) (oi := ?oi170) (v := _) ?hi170 ?hs170 ?hf170 ?hr170 ?hQ170 (Or.inr ⟨?hg170, rfl⟩) hHeld ?rest170
                      case hi170 => simp only [List.getElem?_toArray, List.getElem?_cons_succ, List.getElem?_cons_zero]; rfl
                      case hs170 => kernel_rfl
                      case hf170 => kernel_rfl
                      case hr170 => kernel_rfl
                      case hg170 => rfl
                      case hQ170 => exact fun _ _ _ h => h
                      try simp only [Act.put, List.setIfInBounds_toArray, List.set_cons_zero, List.set_cons_succ]
                      refine wpAnyH_take (i := 20) (oi := ?oi171) (v := _) ?hi171 ?hs171 ?hf171 ?hr171 ?hQ171 (Or.inr ⟨?hg171, rfl⟩) hHeld ?rest171
                      case hi171 => simp only [List.getElem?_toArray, List.getElem?_cons_succ, List.getElem?_cons_zero]; rfl
                      case hs171 => kernel_rfl
                      case hf171 => kernel_rfl
                      case hr171 => kernel_rfl
                      case hg171 => rfl
                      case hQ171 => exact fun _ _ _ h => h
                      try simp only [Act.put, List.setIfInBounds_toArray, List.set_cons_zero, List.set_cons_succ]
                      refine wpAnyH_take (i := 21) (oi := ?oi172) (v := _) ?hi172 ?hs172 ?hf172 ?hr172 ?hQ172 (Or.inr ⟨?hg172, rfl⟩) hHeld ?rest172
                      case hi172 => simp only [List.getElem?_toArray, List.getElem?_cons_succ, List.getElem?_cons_zero]; rfl
                      case hs172 => kernel_rfl
                      case hf172 => kernel_rfl
                      case hr172 => kernel_rfl
                      case hg172 => rfl
                      case hQ172 => exact fun _ _ _ h => h
                      try simp only [Act.put, List.setIfInBounds_toArray, List.set_cons_zero, List.set_cons_succ]
                      refine wpAnyH_take (i := 22) (oi := ?oi173) (v := _) ?hi173 ?hs173 ?hf173 ?hr173 ?hQ173 (Or.inr ⟨?hg173, rfl⟩) hHeld ?rest173
                      case hi173 => simp only [List.getElem?_toArray, List.getElem?_cons_succ, List.getElem?_cons_zero]; rfl
                      case hs173 => kernel_rfl
                      case hf173 => kernel_rfl
                      case hr173 => kernel_rfl
                      case hg173 => rfl
                      case hQ173 => exact fun _ _ _ h => h
                      try simp only [Act.put, List.setIfInBounds_toArray, List.set_cons_zero, List.set_cons_succ]
                      refine wpAnyH_take (i := 23) (oi := ?oi174) (v := _) ?hi174 ?hs174 ?hf174 ?hr174 ?hQ174 (Or.inr ⟨?hg174, rfl⟩) hHeld ?rest174
                      case hi174 => simp only [List.getElem?_toArray, List.getElem?_cons_succ, List.getElem?_cons_zero]; rfl
                      case hs174 => kernel_rfl
                      case hf174 => kernel_rfl
                      case hr174 => kernel_rfl
                      case hg174 => rfl
                      case hQ174 => exact fun _ _ _ h => h
                      try simp only [Act.put, List.setIfInBounds_toArray, List.set_cons_zero, List.set_cons_succ]
                      refine wpAnyH_take (i := 24) (oi := ?oi175) (v := _) ?hi175 ?hs175 ?hf175 ?hr175 ?hQ175 (Or.inr ⟨?hg175, rfl⟩) hHeld ?rest175
                      case hi175 => simp only [List.getElem?_toArray, List.getElem?_cons_succ, List.getElem?_cons_zero]; rfl
                      case hs175 => kernel_rfl
                      case hf175 => kernel_rfl
                      case hr175 => kernel_rfl
                      case hg175 => rfl
                      case hQ175 => exact fun _ _ _ h => h
                      try simp only [Act.put, List.setIfInBounds_toArray, List.set_cons_zero, List.set_cons_succ]
                      refine wpAnyH_take (i := 25) (oi := ?oi176) (v := _) ?hi176 ?hs176 ?hf176 ?hr176 ?hQ176 (Or.inr ⟨?hg176, rfl⟩) hHeld ?rest176
                      case hi176 => simp only [List.getElem?_toArray, List.getElem?_cons_succ, List.getElem?_cons_zero]; rfl
                      case hs176 => kernel_rfl
                      case hf176 => kernel_rfl
                      case hr176 => kernel_rfl
                      case hg176 => rfl
                      case hQ176 => exact fun _ _ _ h => h
                      try simp only [Act.put, List.setIfInBounds_toArray, List.set_cons_zero, List.set_cons_succ]
                      refine wpAnyH_take (i := 26) (oi := ?oi177) (v := ?v177) ?hi177 ?hs177 ?hf177 ?hr177 ?hQ177 (Or.inl ⟨?hg177, ?hy177⟩) hHeld ?rest177
                      case hi177 => simp only [List.getElem?_toArray, List.getElem?_cons_succ, List.getElem?_cons_zero]; rfl
                      case hs177 => kernel_rfl
                      case hf177 => kernel_rfl
                      case hr177 => kernel_rfl
                      case hg177 => rfl
                      case hy177 => (intro w hSw; first | (go_simp; done) | (go_simp; with_reducible rfl))
                      case hQ177 => exact fun _ _ _ h => h
                      try simp only [Act.put, List.setIfInBounds_toArray, List.set_cons_zero, List.set_cons_succ]
                      refine wpAnyH_take (i := 27) (oi := ?oi178) (v := ?v178) ?hi178 ?hs178 ?hf178 ?hr178 ?hQ178 (Or.inl ⟨?hg178, ?hy178⟩) hHeld ?rest178
                      case hi178 => simp only [List.getElem?_toArray, List.getElem?_cons_succ, List.getElem?_cons_zero]; rfl
                      case hs178 => kernel_rfl
                      case hf178 => kernel_rfl
                      case hr178 => kernel_rfl
                      case hg178 => rfl
                      case hy178 => (intro w hSw; first | (go_simp; done) | (go_simp; with_reducible rfl))
                      case hQ178 => exact fun _ _ _ h => h
                      try simp only [Act.put, List.setIfInBounds_toArray, List.set_cons_zero, List.set_cons_succ]
                      refine wpAnyH_take (i := 28) (oi := ?oi179) (v := ?v179) ?hi179 ?hs179 ?hf179 ?hr179 ?hQ179 (Or.inl ⟨?hg179, ?hy179⟩) hHeld ?rest179
                      case hi179 => simp only [List.getElem?_toArray, List.getElem?_cons_succ, List.getElem?_cons_zero]; rfl
                      case hs179 => kernel_rfl
                      case hf179 => kernel_rfl
                      case hr179 => kernel_rfl
                      case hg179 => rfl
                      case hy179 => (intro w hSw; first | (go_simp; done) | (go_simp; with_reducible rfl))
                      case hQ179 => exact fun _ _ _ h => h
                      try simp only [Act.put, List.setIfInBounds_toArray, List.set_cons_zero, List.set_cons_succ]
                      refine wpAnyH_ready (rs := [29]) (by kernel_rfl) (by simp) ?_
                      refine AllReadyH.cons (o := ?oi180) ?hi180 (fun K hK => ?_) AllReadyH.nil
                      case hi180 => simp only [List.getElem?_toArray, List.getElem?_cons_succ, List.getElem?_cons_zero]; rfl
                      go_simp
                      refine hK.out _ _ ((grown_set (gb (Below.refl _ _).drew _) _ _)) (fun hHeld2 => ?_)
                      clear hK K hHeld
                      have hHeld := hHeld2
                      clear hHeld2
                      try simp only [Act.put, List.setIfInBounds_toArray, List.set_cons_zero, List.set_cons_succ]
                      refine wpAnyH_done (by kernel_rfl) ?_ _
                      clear hHeld c9 f9
                      go_wp2_with fail
                      go_roundw
                      case rel => exact ⟨0 + 1, by first | rfl | go_num, by omega, by rw [← tpar_set L s.data.toList (k + 1) (by have := HSS.out; omega) (tab_star_0 HX.out hr0), ← bools_set]; exact (D2.out.set _ _).drew, (D1.out.other E4.out _).drew, by rw [← HA.out]; exact (sl_set DS.out E3.out _ _).drew, (Below.setCell DB.out hsz1 _).drew⟩
                      case measure => simp [intOf] <;> omega
                    | succ j1 =>
                      obtain ⟨cc, hcc⟩ : ∃ cc, s[j1]'(by omega) = cc := ⟨_, rfl⟩
                      have HCC := Lib.hid (show s.data.toList[j1]?.getD 0 = cc by rw [data_at s j1 (by omega), hcc]; rfl)
                      have ej : ((j1 : Int) + 1 - 1) = (j1 : Int) := by omega
                      have p1 : j1 < m := by omega
                      have p2 : (0 : Int) ≤ (j1 : Int) + 1 := by omega
                      have p3 : (j1 : Int) < (m : Int) := by omega
                      have pw : IntKind.i64.wrap (j1 : Int) = (j1 : Int) := by rw [IntKind.wrap_i64]; omega
                      have p4 : (j1 : Int) < (m : Int) + 1 := by omega
                      have p5 : (0 : Int) < (j1 : Int) + 1 := by omega
                      clear q0 q1 q2
                      have hnb : wr.cell? ⟨g2, j1, none⟩ = some (.bool (tab L s.data.toList (k + 1) j1)) := by rw [D2.out.cell, bools_at (by rw [tpar_len, HSS.out]; omega), tpar_at (by rw [HSS.out]; omega), decide_eq_true (by omega)]; rfl
                      have KT := Lib.hid (tab_star_s HX.out SG.out hr0 HCC.out)
                      cases hn0 : tab L s.data.toList (k + 1) j1 with
                      | false =>
                        rw [hn0] at hnb
                        have CN := Lib.hid hnb
                        clear hnb
                        refine wp_region_held_drew (S := fun w' => wr.grownBy w' (some g2) ∧ w'.cell? ⟨g2, j1, none⟩ = some (.bool false)) (by kernel_rfl) (⟨gb (Below.refl _ _).drew _, CN.out⟩) (fun hHeld => ?_)
                        refine wpAnyH_take (i := 0) (oi := ?oi181) (v := ?v181) ?hi181 ?hs181 ?hf181 ?hr181 ?hQ181 (Or.inl ⟨?hg181, ?hy181⟩) hHeld ?rest181
                        case hi181 => simp only [List.getElem?_toArray, List.getElem?_cons_succ, List.getElem?_cons_zero]; rfl
                        case hs181 => kernel_rfl
                        case hf181 => kernel_rfl
                        case hr181 => kernel_rfl
                        case hg181 => rfl
                        case hy181 => (intro w hSw; first | (go_simp; done) | (go_simp; with_reducible rfl))
                        case hQ181 => exact fun _ _ _ h => h
                        try simp only [Act.put, List.setIfInBounds_toArray, List.set_cons_zero, List.set_cons_succ]
                        refine wpAnyH_take (i := 1) (oi := ?oi182) (v := ?v182) ?hi182 ?hs182 ?hf182 ?hr182 ?hQ182 (Or.inl ⟨?hg182, ?hy182⟩) hHeld ?rest182
                        case hi182 => simp only [List.getElem?_toArray, List.getElem?_cons_succ, List.getElem?_cons_zero]; rfl
                        case hs182 => kernel_rfl
                        case hf182 => kernel_rfl
                        case hr182 => kernel_rfl
                        case hg182 => rfl
                        case hy182 => (intro w hSw; first | (go_simp; done) | (go_simp; with_reducible rfl))
                        case hQ182 => exact fun _ _ _ h => h
                        try simp only [Act.put, List.setIfInBounds_toArray, List.set_cons_zero, List.set_cons_succ]
                        refine wpAnyH_take (i := 2) (oi := ?oi183) (v := ?v183) ?hi183 ?hs183 ?hf183 ?hr183 ?hQ183 (Or.inl ⟨?hg183, ?hy183⟩) hHeld ?rest183
                        case hi183 => simp only [List.getElem?_toArray, List.getElem?_cons_succ, List.getElem?_cons_zero]; rfl
                        case hs183 => kernel_rfl
                        case hf183 => kernel_rfl
                        case hr183 => kernel_rfl
                        case hg183 => rfl
                        case hy183 => (intro w hSw; first | (go_simp; done) | (go_simp; with_reducible rfl))
                        case hQ183 => exact fun _ _ _ h => h
                        try simp only [Act.put, List.setIfInBounds_toArray, List.set_cons_zero, List.set_cons_succ]
                        refine wpAnyH_take (i := 3) (oi := ?oi184) (v := ?v184) ?hi184 ?hs184 ?hf184 ?hr184 ?hQ184 (Or.inl ⟨?hg184, ?hy184⟩) hHeld ?rest184
                        case hi184 => simp only [List.getElem?_toArray, List.getElem?_cons_succ, List.getElem?_cons_zero]; rfl
                        case hs184 => kernel_rfl
                        case hf184 => kernel_rfl
                        case hr184 => kernel_rfl
                        case hg184 => rfl
                        case hy184 => (intro w hSw; first | (go_simp; done) | (go_simp; with_reducible rfl))
                        case hQ184 => exact fun _ _ _ h => h
                        try simp only [Act.put, List.setIfInBounds_toArray, List.set_cons_zero, List.set_cons_succ]
                        refine wpAnyH_take (i := 4) (oi := ?oi185) (v := ?v185) ?hi185 ?hs185 ?hf185 ?hr185 ?hQ185 (Or.inl ⟨?hg185, ?hy185⟩) hHeld ?rest185
                        case hi185 => simp only [List.getElem?_toArray, List.getElem?_cons_succ, List.getElem?_cons_zero]; rfl
                        case hs185 => kernel_rfl
                        case hf185 => kernel_rfl
                        case hr185 => kernel_rfl
                        case hg185 => rfl
                        case hy185 => (intro w hSw; first | (go_simp; done) | (go_simp; with_reducible rfl))
                        case hQ185 => exact fun _ _ _ h => h
                        try simp only [Act.put, List.setIfInBounds_toArray, List.set_cons_zero, List.set_cons_succ]
                        refine wpAnyH_take (i := 5) (oi := ?oi186) (v := ?v186) ?hi186 ?hs186 ?hf186 ?hr186 ?hQ186 (Or.inl ⟨?hg186, ?hy186⟩) hHeld ?rest186
                        case hi186 => simp only [List.getElem?_toArray, List.getElem?_cons_succ, List.getElem?_cons_zero]; rfl
                        case hs186 => kernel_rfl
                        case hf186 => kernel_rfl
                        case hr186 => kernel_rfl
                        case hg186 => rfl
                        case hy186 => (intro w hSw; have x0 := (D1.out.grown hSw.1 (by simpa using E4.out)).cell (j1 + 1); rw [bools_at (by rw [trow_len, HSS.out]; omega), trow_at (by have := HSS.out; omega), hr0] at x0; first | (go_simp; done) | (go_simp; with_reducible rfl))
                        case hQ186 => exact fun _ _ _ h => h
                        try simp only [Act.put, List.setIfInBounds_toArray, List.set_cons_zero, List.set_cons_succ]
                        refine wpAnyH_take (i := 6) (oi := ?oi187) (v := ?v187) ?hi187 ?hs187 ?hf187 ?hr187 ?hQ187 (Or.inl ⟨?hg187, ?hy187⟩) hHeld ?rest187
                        case hi187 => simp only [List.getElem?_toArray, List.getElem?_cons_succ, List.getElem?_cons_zero]; rfl
                        case hs187 => kernel_rfl
                        case hf187 => kernel_rfl
                        case hr187 => kernel_rfl
                        case hg187 => rfl
                        case hy187 => (intro w hSw; first | (go_simp; done) | (go_simp; with_reducible rfl))
                        case hQ187 => exact fun _ _ _ h => h
                        try simp only [Act.put, List.setIfInBounds_toArray, List.set_cons_zero, List.set_cons_succ]
                        refine wpAnyH_take (i := 7) (oi := ?oi188) (v := ?v188) ?hi188 ?hs188 ?hf188 ?hr188 ?hQ188 (Or.inl ⟨?hg188, ?hy188⟩) hHeld ?rest188
                        case hi188 => simp only [List.getElem?_toArray, List.getElem?_cons_succ, List.getElem?_cons_zero]; rfl
                        case hs188 => kernel_rfl
                        case hf188 => kernel_rfl
                        case hr188 => kernel_rfl
                        case hg188 => rfl
                        case hy188 => (intro w hSw; first | (go_simp; done) | (go_simp; with_reducible rfl))
                        case hQ188 => exact fun _ _ _ h => h
                        try simp only [Act.put, List.setIfInBounds_toArray, List.set_cons_zero, List.set_cons_succ]
                        refine wpAnyH_take (i := 8) (oi := ?oi189) (v := ?v189) ?hi189 ?hs189 ?hf189 ?hr189 ?hQ189 (Or.inl ⟨?hg189, ?hy189⟩) hHeld ?rest189
                        case hi189 => simp only [List.getElem?_toArray, List.getElem?_cons_succ, List.getElem?_cons_zero]; rfl
                        case hs189 => kernel_rfl
                        case hf189 => kernel_rfl
                        case hr189 => kernel_rfl
                        case hg189 => rfl
                        case hy189 => (intro w hSw; first | (go_simp; done) | (go_simp; with_reducible rfl))
                        case hQ189 => exact fun _ _ _ h => h
                        try simp only [Act.put, List.setIfInBounds_toArray, List.set_cons_zero, List.set_cons_succ]
                        refine wpAnyH_take (i := 9) (oi := ?oi190) (v := ?v190) ?hi190 ?hs190 ?hf190 ?hr190 ?hQ190 (Or.inl ⟨?hg190, ?hy190⟩) hHeld ?rest190
                        case hi190 => simp only [List.getElem?_toArray, List.getElem?_cons_succ, List.getElem?_cons_zero]; rfl
                        case hs190 => kernel_rfl
                        case hf190 => kernel_rfl
                        case hr190 => kernel_rfl
                        case hg190 => rfl
                        case hy190 => (intro w hSw; first | (go_simp; done) | (go_simp; with_reducible rfl))
                        case hQ190 => exact fun _ _ _ h => h
                        try simp only [Act.put, List.setIfInBounds_toArray, List.set_cons_zero, List.set_cons_succ]
                        refine wpAnyH_take (i := 10) (oi := ?oi191) (v := ?v191) ?hi191 ?hs191 ?hf191 ?hr191 ?hQ191 (Or.inl ⟨?hg191, ?hy191⟩) hHeld ?rest191
                        case hi191 => simp only [List.getElem?_toArray, List.getElem?_cons_succ, List.getElem?_cons_zero]; rfl
                        case hs191 => kernel_rfl
                        case hf191 => kernel_rfl
                        case hr191 => kernel_rfl
                        case hg191 => rfl
                        case hy191 => (intro w hSw; first | (go_simp; done) | (go_simp; with_reducible rfl))
                        case hQ191 => exact fun _ _ _ h => h
                        try simp only [Act.put, List.setIfInBounds_toArray, List.set_cons_zero, List.set_cons_succ]
                        refine wpAnyH_take (i := 11) (oi := ?oi192) (v := ?v192) ?hi192 ?hs192 ?hf192 ?hr192 ?hQ192 (Or.inl ⟨?hg192, ?hy192⟩) hHeld ?rest192
                        case hi192 => simp only [List.getElem?_toArray, List.getElem?_cons_succ, List.getElem?_cons_zero]; rfl
                        case hs192 => kernel_rfl
                        case hf192 => kernel_rfl
                        case hr192 => kernel_rfl
                        case hg192 => rfl
                        case hy192 => (intro w hSw; first | (go_simp; done) | (go_simp; with_reducible rfl))
                        case hQ192 => exact fun _ _ _ h => h
                        try simp only [Act.put, List.setIfInBounds_toArray, List.set_cons_zero, List.set_cons_succ]
                        refine wpAnyH_take (i := 12) (oi := ?oi193) (v := ?v193) ?hi193 ?hs193 ?hf193 ?hr193 ?hQ193 (Or.inl ⟨?hg193, ?hy193⟩) hHeld ?rest193
                        case hi193 => simp only [List.getElem?_toArray, List.getElem?_cons_succ, List.getElem?_cons_zero]; rfl
                        case hs193 => kernel_rfl
                        case hf193 => kernel_rfl
                        case hr193 => kernel_rfl
                        case hg193 => rfl
                        case hy193 => (intro w hSw; first | (go_simp; done) | (go_simp; with_reducible rfl))
                        case hQ193 => exact fun _ _ _ h => h
                        try simp only [Act.put, List.setIfInBounds_toArray, List.set_cons_zero, List.set_cons_succ]
                        refine wpAnyH_take (i := 13) (oi := ?oi194) (v := ?v194) ?hi194 ?hs194 ?hf194 ?hr194 ?hQ194 (Or.inl ⟨?hg194, ?hy194⟩) hHeld ?rest194
                        case hi194 => simp only [List.getElem?_toArray, List.getElem?_cons_succ, List.getElem?_cons_zero]; rfl
                        case hs194 => kernel_rfl
                        case hf194 => kernel_rfl
                        case hr194 => kernel_rfl
                        case hg194 => rfl
                        case hy194 => (intro w hSw; first | (go_simp; done) | (go_simp; with_reducible rfl))
                        case hQ194 => exact fun _ _ _ h => h
                        try simp only [Act.put, List.setIfInBounds_toArray, List.set_cons_zero, List.set_cons_succ]
                        refine wpAnyH_take (i := 14) (oi := ?oi195) (v := ?v195) ?hi195 ?hs195 ?hf195 ?hr195 ?hQ195 (Or.inl ⟨?hg195, ?hy195⟩) hHeld ?rest195
                        case hi195 => simp only [List.getElem?_toArray, List.getElem?_cons_succ, List.getElem?_cons_zero]; rfl
                        case hs195 => kernel_rfl
                        case hf195 => kernel_rfl
                        case hr195 => kernel_rfl
                        case hg195 => rfl
                        case hy195 => (intro w hSw; have y0 : w.cell? ⟨g2, j1, none⟩ = some (.bool false) := hSw.2; first | (go_simp; done) | (go_simp; with_reducible rfl))
                        case hQ195 => exact fun _ _ _ h => h
                        try simp only [Act.put, List.setIfInBounds_toArray, List.set_cons_zero, List.set_cons_succ]
                        refine wpAnyH_take (i := 15) (oi := ?oi196) (v := ?v196) ?hi196 ?hs196 ?hf196 ?hr196 ?hQ196 (Or.inl ⟨?hg196, ?hy196⟩) hHeld ?rest196
                        case hi196 => simp only [List.getElem?_toArray, List.getElem?_cons_succ, List.getElem?_cons_zero]; rfl
                        case hs196 => kernel_rfl
                        case hf196 => kernel_rfl
                        case hr196 => kernel_rfl
                        case hg196 => rfl
                        case hy196 => (intro w hSw; first | (go_simp; done) | (go_simp; with_reducible rfl))
                        case hQ196 => exact fun _ _ _ h => h
                        try simp only [Act.put, List.setIfInBounds_toArray, List.set_cons_zero, List.set_cons_succ]
                        refine wpAnyH_take (i := 16) (oi := ?oi197) (v := ?v197) ?hi197 ?hs197 ?hf197 ?hr197 ?hQ197 (Or.inl ⟨?hg197, ?hy197⟩) hHeld ?rest197
                        case hi197 => simp only [List.getElem?_toArray, List.getElem?_cons_succ, List.getElem?_cons_zero]; rfl
                        case hs197 => kernel_rfl
                        case hf197 => kernel_rfl
                        case hr197 => kernel_rfl
                        case hg197 => rfl
                        case hy197 => (intro w hSw; first | (go_simp; done) | (go_simp; with_reducible rfl))
                        case hQ197 => exact fun _ _ _ h => h
                        try simp only [Act.put, List.setIfInBounds_toArray, List.set_cons_zero, List.set_cons_succ]
                        refine wpAnyH_take (i := 17) (oi := ?oi198) (v := _) ?hi198 ?hs198 ?hf198 ?hr198 ?hQ198 (Or.inr ⟨?hg198, rfl⟩) hHeld ?rest198
                        case hi198 => simp only [List.getElem?_toArray, List.getElem?_cons_succ, List.getElem?_cons_zero]; rfl
                        case hs198 => kernel_rfl
                        case hf198 => kernel_rfl
                        case hr198 => kernel_rfl
                        case hg198 => rfl
                        case hQ198 => exact fun _ _ _ h => h
                        try simp only [Act.put, List.setIfInBounds_toArray, List.set_cons_zero, List.set_cons_succ]
                        refine wpAnyH_take (i := 18) (oi := ?oi199) (v := _) ?hi199 ?hs199 ?hf199 ?hr199 ?hQ199 (Or.inr ⟨?hg199, rfl⟩) hHeld ?rest199
                        case hi199 => simp only [List.getElem?_toArray, List.getElem?_cons_succ, List.getElem?_cons_zero]; rfl
                        case hs199 => kernel_rfl
                        case hf199 => kernel_rfl
                        case hr199 => kernel_rfl
                        case hg199 => rfl
                        case hQ199 => exact fun _ _ _ h => h
                        try simp only [Act.put, List.setIfInBounds_toArray, List.set_cons_zero, List.set_cons_succ]
                        refine wpAnyH_take (i := 19) (oi := ?oi200) (v := _) ?hi200 ?hs200 ?hf200 ?hr200 ?hQ200 (Or.inr ⟨?hg200, rfl⟩) hHeld ?rest200
                        case hi200 => simp only [List.getElem?_toArray, List.getElem?_cons_succ, List.getElem?_cons_zero]; rfl
                        case hs200 => kernel_rfl
                        case hf200 => kernel_rfl
                        case hr200 => kernel_rfl
                        case hg200 => rfl
                        case hQ200 => exact fun _ _ _ h => h
                        try simp only [Act.put, List.setIfInBounds_toArray, List.set_cons_zero, List.set_cons_succ]
                        refine wpAnyH_take (i := 20) (oi := ?oi201) (v := _) ?hi201 ?hs201 ?hf201 ?hr201 ?hQ201 (Or.inr ⟨?hg201, rfl⟩) hHeld ?rest201
                        case hi201 => simp only [List.getElem?_toArray, List.getElem?_cons_succ, List.getElem?_cons_zero]; rfl
                        case hs201 => kernel_rfl
                        case hf201 => kernel_rfl
                        case hr201 => kernel_rfl
                        case hg201 => rfl
                        case hQ201 => exact fun _ _ _ h => h
                        try simp only [Act.put, List.setIfInBounds_toArray, List.set_cons_zero, List.set_cons_succ]
                        refine wpAnyH_take (i := 21) (oi := ?oi202) (v := _) ?hi202 ?hs202 ?hf202 ?hr202 ?hQ202 (Or.inr ⟨?hg202, rfl⟩) hHeld ?rest202
                        case hi202 => simp only [List.getElem?_toArray, List.getElem?_cons_succ, List.getElem?_cons_zero]; rfl
                        case hs202 => kernel_rfl
                        case hf202 => kernel_rfl
                        case hr202 => kernel_rfl
                        case hg202 => rfl
                        case hQ202 => exact fun _ _ _ h => h
                        try simp only [Act.put, List.setIfInBounds_toArray, List.set_cons_zero, List.set_cons_succ]
                        refine wpAnyH_take (i := 22) (oi := ?oi203) (v := _) ?hi203 ?hs203 ?hf203 ?hr203 ?hQ203 (Or.inr ⟨?hg203, rfl⟩) hHeld ?rest203
                        case hi203 => simp only [List.getElem?_toArray, List.getElem?_cons_succ, List.getElem?_cons_zero]; rfl
                        case hs203 => kernel_rfl
                        case hf203 => kernel_rfl
                        case hr203 => kernel_rfl
                        case hg203 => rfl
                        case hQ203 => exact fun _ _ _ h => h
                        try simp only [Act.put, List.setIfInBounds_toArray, List.set_cons_zero, List.set_cons_succ]
                        refine wpAnyH_take (i := 23) (oi := ?oi204) (v := _) ?hi204 ?hs204 ?hf204 ?hr204 ?hQ204 (Or.inr ⟨?hg204, rfl⟩) hHeld ?rest204
                        case hi204 => simp only [List.getElem?_toArray, List.getElem?_cons_succ, List.getElem?_cons_zero]; rfl
                        case hs204 => kernel_rfl
                        case hf204 => kernel_rfl
                        case hr204 => kernel_rfl
                        case hg204 => rfl
                        case hQ204 => exact fun _ _ _ h => h
                        try simp only [Act.put, List.setIfInBounds_toArray, List.set_cons_zero, List.set_cons_succ]
                        refine wpAnyH_take (i := 24) (oi := ?oi205) (v := _) ?hi205 ?hs205 ?hf205 ?hr205 ?hQ205 (Or.inr ⟨?hg205, rfl⟩) hHeld ?rest205
                        case hi205 => simp only [List.getElem?_toArray, List.getElem?_cons_succ, List.getElem?_cons_zero]; rfl
                        case hs205 => kernel_rfl
                        case hf205 => kernel_rfl
                        case hr205 => kernel_rfl
                        case hg205 => rfl
                        case hQ205 => exact fun _ _ _ h => h
                        try simp only [Act.put, List.setIfInBounds_toArray, List.set_cons_zero, List.set_cons_succ]
                        refine wpAnyH_take (i := 25) (oi := ?oi206) (v := _) ?hi206 ?hs206 ?hf206 ?hr206 ?hQ206 (Or.inr ⟨?hg206, rfl⟩) hHeld ?rest206
                        case hi206 => simp only [List.getElem?_toArray, List.getElem?_cons_succ, List.getElem?_cons_zero]; rfl
                        case hs206 => kernel_rfl
                        case hf206 => kernel_rfl
                        case hr206 => kernel_rfl
                        case hg206 => rfl
                        case hQ206 => exact fun _ _ _ h => h
                        try simp only [Act.put, List.setIfInBounds_toArray, List.set_cons_zero, List.set_cons_succ]
                        refine wpAnyH_take (i := 26) (oi := ?oi207) (v := ?v207) ?hi207 ?hs207 ?hf207 ?hr207 ?hQ207 (Or.inl ⟨?hg207, ?hy207⟩) hHeld ?rest207
                        case hi207 => simp only [List.getElem?_toArray, List.getElem?_cons_succ, List.getElem?_cons_zero]; rfl
                        case hs207 => kernel_rfl
                        case hf207 => kernel_rfl
                        case hr207 => kernel_rfl
                        case hg207 => rfl
                        case hy207 => (intro w hSw; first | (go_simp; done) | (go_simp; with_reducible rfl))
                        case hQ207 => exact fun _ _ _ h => h
                        try simp only [Act.put, List.setIfInBounds_toArray, List.set_cons_zero, List.set_cons_succ]
                        refine wpAnyH_take (i := 27) (oi := ?oi208) (v := ?v208) ?hi208 ?hs208 ?hf208 ?hr208 ?hQ208 (Or.inl ⟨?hg208, ?hy208⟩) hHeld ?rest208
                        case hi208 => simp only [List.getElem?_toArray, List.getElem?_cons_succ, List.getElem?_cons_zero]; rfl
                        case hs208 => kernel_rfl
                        case hf208 => kernel_rfl
                        case hr208 => kernel_rfl
                        case hg208 => rfl
                        case hy208 => (intro w hSw; first | (go_simp; done) | (go_simp; with_reducible rfl))
                        case hQ208 => exact fun _ _ _ h => h
                        try simp only [Act.put, List.setIfInBounds_toArray, List.set_cons_zero, List.set_cons_succ]
                        refine wpAnyH_take (i := 28) (oi := ?oi209) (v := ?v209) ?hi209 ?hs209 ?hf209 ?hr209 ?hQ209 (Or.inl ⟨?hg209, ?hy209⟩) hHeld ?rest209
                        case hi209 => simp only [List.getElem?_toArray, List.getElem?_cons_succ, List.getElem?_cons_zero]; rfl
                        case hs209 => kernel_rfl
                        case hf209 => kernel_rfl
                        case hr209 => kernel_rfl
                        case hg209 => rfl
                        case hy209 => (intro w hSw; first | (go_simp; done) | (go_simp; with_reducible rfl))
                        case hQ209 => exact fun _ _ _ h => h
                        try simp only [Act.put, List.setIfInBounds_toArray, List.set_cons_zero, List.set_cons_succ]
                        refine wpAnyH_ready (rs := [29]) (by kernel_rfl) (by simp) ?_
                        refine AllReadyH.cons (o := ?oi210) ?hi210 (fun K hK => ?_) AllReadyH.nil
                        case hi210 => simp only [List.getElem?_toArray, List.getElem?_cons_succ, List.getElem?_cons_zero]; rfl
                        go_simp
                        refine hK.out _ _ (⟨grown_set (gb (Below.refl _ _).drew _) _ _, (cell_other _ (by omega)).trans CN.out⟩) (fun hHeld2 => ?_)
                        clear hK K hHeld
                        have hHeld := hHeld2
                        clear hHeld2
                        try simp only [Act.put, List.setIfInBounds_toArray, List.set_cons_zero, List.set_cons_succ]
                        refine wpAnyH_done (by kernel_rfl) ?_ _
                        clear hHeld c9 f9
                        go_wp2_with fail
                        go_roundw
                        case rel => exact ⟨(j1 + 1) + 1, by first | rfl | go_num, by omega, by rw [← tpar_set L s.data.toList (k + 1) (by have := HSS.out; omega) (by rw [KT.out, hn0, Bool.false_and]), ← bools_set]; exact (D2.out.set _ _).drew, (D1.out.other E4.out _).drew, by rw [← HA.out]; exact (sl_set DS.out E3.out _ _).drew, (Below.setCell DB.out hsz1 _).drew⟩
                        case measure => simp [intOf] <;> omega
                      | true =>
                        rw [hn0] at hnb
                        have CN := Lib.hid hnb
                        clear hnb
                        refine wp_region_held_drew (S := fun w' => wr.grownBy w' (some g2) ∧ w'.cell? ⟨g2, j1, none⟩ = some (.bool true)) (by kernel_rfl) (⟨gb (Below.refl _ _).drew _, CN.out⟩) (fun hHeld => ?_)
                        refine wpAnyH_take (i := 0) (oi := ?oi211) (v := ?v211) ?hi211 ?hs211 ?hf211 ?hr211 ?hQ211 (Or.inl ⟨?hg211, ?hy211⟩) hHeld ?rest211
                        case hi211 => simp only [List.getElem?_toArray, List.getElem?_cons_succ, List.getElem?_cons_zero]; rfl
                        case hs211 => kernel_rfl
                        case hf211 => kernel_rfl
                        case hr211 => kernel_rfl
                        case hg211 => rfl
                        case hy211 => (intro w hSw; first | (go_simp; done) | (go_simp; with_reducible rfl))
                        case hQ211 => exact fun _ _ _ h => h
                        try simp only [Act.put, List.setIfInBounds_toArray, List.set_cons_zero, List.set_cons_succ]
                        refine wpAnyH_take (i := 1) (oi := ?oi212) (v := ?v212) ?hi212 ?hs212 ?hf212 ?hr212 ?hQ212 (Or.inl ⟨?hg212, ?hy212⟩) hHeld ?rest212
                        case hi212 => simp only [List.getElem?_toArray, List.getElem?_cons_succ, List.getElem?_cons_zero]; rfl
                        case hs212 => kernel_rfl
                        case hf212 => kernel_rfl
                        case hr212 => kernel_rfl
                        case hg212 => rfl
                        case hy212 => (intro w hSw; first | (go_simp; done) | (go_simp; with_reducible rfl))
                        case hQ212 => exact fun _ _ _ h => h
                        try simp only [Act.put, List.setIfInBounds_toArray, List.set_cons_zero, List.set_cons_succ]
                        refine wpAnyH_take (i := 2) (oi := ?oi213) (v := ?v213) ?hi213 ?hs213 ?hf213 ?hr213 ?hQ213 (Or.inl ⟨?hg213, ?hy213⟩) hHeld ?rest213
                        case hi213 => simp only [List.getElem?_toArray, List.getElem?_cons_succ, List.getElem?_cons_zero]; rfl
                        case hs213 => kernel_rfl
                        case hf213 => kernel_rfl
                        case hr213 => kernel_rfl
                        case hg213 => rfl
                        case hy213 => (intro w hSw; first | (go_simp; done) | (go_simp; with_reducible rfl))
                        case hQ213 => exact fun _ _ _ h => h
                        try simp only [Act.put, List.setIfInBounds_toArray, List.set_cons_zero, List.set_cons_succ]
                        refine wpAnyH_take (i := 3) (oi := ?oi214) (v := ?v214) ?hi214 ?hs214 ?hf214 ?hr214 ?hQ214 (Or.inl ⟨?hg214, ?hy214⟩) hHeld ?rest214
                        case hi214 => simp only [List.getElem?_toArray, List.getElem?_cons_succ, List.getElem?_cons_zero]; rfl
                        case hs214 => kernel_rfl
                        case hf214 => kernel_rfl
                        case hr214 => kernel_rfl
                        case hg214 => rfl
                        case hy214 => (intro w hSw; first | (go_simp; done) | (go_simp; with_reducible rfl))
                        case hQ214 => exact fun _ _ _ h => h
                        try simp only [Act.put, List.setIfInBounds_toArray, List.set_cons_zero, List.set_cons_succ]
                        refine wpAnyH_take (i := 4) (oi := ?oi215) (v := ?v215) ?hi215 ?hs215 ?hf215 ?hr215 ?hQ215 (Or.inl ⟨?hg215, ?hy215⟩) hHeld ?rest215
                        case hi215 => simp only [List.getElem?_toArray, List.getElem?_cons_succ, List.getElem?_cons_zero]; rfl
                        case hs215 => kernel_rfl
                        case hf215 => kernel_rfl
                        case hr215 => kernel_rfl
                        case hg215 => rfl
                        case hy215 => (intro w hSw; first | (go_simp; done) | (go_simp; with_reducible rfl))
                        case hQ215 => exact fun _ _ _ h => h
                        try simp only [Act.put, List.setIfInBounds_toArray, List.set_cons_zero, List.set_cons_succ]
                        refine wpAnyH_take (i := 5) (oi := ?oi216) (v := ?v216) ?hi216 ?hs216 ?hf216 ?hr216 ?hQ216 (Or.inl ⟨?hg216, ?hy216⟩) hHeld ?rest216
                        case hi216 => simp only [List.getElem?_toArray, List.getElem?_cons_succ, List.getElem?_cons_zero]; rfl
                        case hs216 => kernel_rfl
                        case hf216 => kernel_rfl
                        case hr216 => kernel_rfl
                        case hg216 => rfl
                        case hy216 => (intro w hSw; have x0 := (D1.out.grown hSw.1 (by simpa using E4.out)).cell (j1 + 1); rw [bools_at (by rw [trow_len, HSS.out]; omega), trow_at (by have := HSS.out; omega), hr0] at x0; first | (go_simp; done) | (go_simp; with_reducible rfl))
                        case hQ216 => exact fun _ _ _ h => h
                        try simp only [Act.put, List.setIfInBounds_toArray, List.set_cons_zero, List.set_cons_succ]
                        refine wpAnyH_take (i := 6) (oi := ?oi217) (v := ?v217) ?hi217 ?hs217 ?hf217 ?hr217 ?hQ217 (Or.inl ⟨?hg217, ?hy217⟩) hHeld ?rest217
                        case hi217 => simp only [List.getElem?_toArray, List.getElem?_cons_succ, List.getElem?_cons_zero]; rfl
                        case hs217 => kernel_rfl
                        case hf217 => kernel_rfl
                        case hr217 => kernel_rfl
                        case hg217 => rfl
                        case hy217 => (intro w hSw; first | (go_simp; done) | (go_simp; with_reducible rfl))
                        case hQ217 => exact fun _ _ _ h => h
                        try simp only [Act.put, List.setIfInBounds_toArray, List.set_cons_zero, List.set_cons_succ]
                        refine wpAnyH_take (i := 7) (oi := ?oi218) (v := ?v218) ?hi218 ?hs218 ?hf218 ?hr218 ?hQ218 (Or.inl ⟨?hg218, ?hy218⟩) hHeld ?rest218
                        case hi218 => simp only [List.getElem?_toArray, List.getElem?_cons_succ, List.getElem?_cons_zero]; rfl
                        case hs218 => kernel_rfl
                        case hf218 => kernel_rfl
                        case hr218 => kernel_rfl
                        case hg218 => rfl
                        case hy218 => (intro w hSw; first | (go_simp; done) | (go_simp; with_reducible rfl))
                        case hQ218 => exact fun _ _ _ h => h
                        try simp only [Act.put, List.setIfInBounds_toArray, List.set_cons_zero, List.set_cons_succ]
                        refine wpAnyH_take (i := 8) (oi := ?oi219) (v := ?v219) ?hi219 ?hs219 ?hf219 ?hr219 ?hQ219 (Or.inl ⟨?hg219, ?hy219⟩) hHeld ?rest219
                        case hi219 => simp only [List.getElem?_toArray, List.getElem?_cons_succ, List.getElem?_cons_zero]; rfl
                        case hs219 => kernel_rfl
                        case hf219 => kernel_rfl
                        case hr219 => kernel_rfl
                        case hg219 => rfl
                        case hy219 => (intro w hSw; first | (go_simp; done) | (go_simp; with_reducible rfl))
                        case hQ219 => exact fun _ _ _ h => h
                        try simp only [Act.put, List.setIfInBounds_toArray, List.set_cons_zero, List.set_cons_succ]
                        refine wpAnyH_take (i := 9) (oi := ?oi220) (v := ?v220) ?hi220 ?hs220 ?hf220 ?hr220 ?hQ220 (Or.inl ⟨?hg220, ?hy220⟩) hHeld ?rest220
                        case hi220 => simp only [List.getElem?_toArray, List.getElem?_cons_succ, List.getElem?_cons_zero]; rfl
                        case hs220 => kernel_rfl
                        case hf220 => kernel_rfl
                        case hr220 => kernel_rfl
                        case hg220 => rfl
                        case hy220 => (intro w hSw; first | (go_simp; done) | (go_simp; with_reducible rfl))
                        case hQ220 => exact fun _ _ _ h => h
                        try simp only [Act.put, List.setIfInBounds_toArray, List.set_cons_zero, List.set_cons_succ]
                        refine wpAnyH_take (i := 10) (oi := ?oi221) (v := ?v221) ?hi221 ?hs221 ?hf221 ?hr221 ?hQ221 (Or.inl ⟨?hg221, ?hy221⟩) hHeld ?rest221
                        case hi221 => simp only [List.getElem?_toArray, List.getElem?_cons_succ, List.getElem?_cons_zero]; rfl
                        case hs221 => kernel_rfl
                        case hf221 => kernel_rfl
                        case hr221 => kernel_rfl
                        case hg221 => rfl
                        case hy221 => (intro w hSw; first | (go_simp; done) | (go_simp; with_reducible rfl))
                        case hQ221 => exact fun _ _ _ h => h
                        try simp only [Act.put, List.setIfInBounds_toArray, List.set_cons_zero, List.set_cons_succ]
                        refine wpAnyH_take (i := 11) (oi := ?oi222) (v := ?v222) ?hi222 ?hs222 ?hf222 ?hr222 ?hQ222 (Or.inl ⟨?hg222, ?hy222⟩) hHeld ?rest222
                        case hi222 => simp only [List.getElem?_toArray, List.getElem?_cons_succ, List.getElem?_cons_zero]; rfl
                        case hs222 => kernel_rfl
                        case hf222 => kernel_rfl
                        case hr222 => kernel_rfl
                        case hg222 => rfl
                        case hy222 => (intro w hSw; first | (go_simp; done) | (go_simp; with_reducible rfl))
                        case hQ222 => exact fun _ _ _ h => h
                        try simp only [Act.put, List.setIfInBounds_toArray, List.set_cons_zero, List.set_cons_succ]
                        refine wpAnyH_take (i := 12) (oi := ?oi223) (v := ?v223) ?hi223 ?hs223 ?hf223 ?hr223 ?hQ223 (Or.inl ⟨?hg223, ?hy223⟩) hHeld ?rest223
                        case hi223 => simp only [List.getElem?_toArray, List.getElem?_cons_succ, List.getElem?_cons_zero]; rfl
                        case hs223 => kernel_rfl
                        case hf223 => kernel_rfl
                        case hr223 => kernel_rfl
                        case hg223 => rfl
                        case hy223 => (intro w hSw; first | (go_simp; done) | (go_simp; with_reducible rfl))
                        case hQ223 => exact fun _ _ _ h => h
                        try simp only [Act.put, List.setIfInBounds_toArray, List.set_cons_zero, List.set_cons_succ]
                        refine wpAnyH_take (i := 13) (oi := ?oi224) (v := ?v224) ?hi224 ?hs224 ?hf224 ?hr224 ?hQ224 (Or.inl ⟨?hg224, ?hy224⟩) hHeld ?rest224
                        case hi224 => simp only [List.getElem?_toArray, List.getElem?_cons_succ, List.getElem?_cons_zero]; rfl
                        case hs224 => kernel_rfl
                        case hf224 => kernel_rfl
                        case hr224 => kernel_rfl
                        case hg224 => rfl
                        case hy224 => (intro w hSw; first | (go_simp; done) | (go_simp; with_reducible rfl))
                        case hQ224 => exact fun _ _ _ h => h
                        try simp only [Act.put, List.setIfInBounds_toArray, List.set_cons_zero, List.set_cons_succ]
                        refine wpAnyH_take (i := 14) (oi := ?oi225) (v := ?v225) ?hi225 ?hs225 ?hf225 ?hr225 ?hQ225 (Or.inl ⟨?hg225, ?hy225⟩) hHeld ?rest225
                        case hi225 => simp only [List.getElem?_toArray, List.getElem?_cons_succ, List.getElem?_cons_zero]; rfl
                        case hs225 => kernel_rfl
                        case hf225 => kernel_rfl
                        case hr225 => kernel_rfl
                        case hg225 => rfl
                        case hy225 => (intro w hSw; have y0 : w.cell? ⟨g2, j1, none⟩ = some (.bool true) := hSw.2; first | (go_simp; done) | (go_simp; with_reducible rfl))
                        case hQ225 => exact fun _ _ _ h => h
                        try simp only [Act.put, List.setIfInBounds_toArray, List.set_cons_zero, List.set_cons_succ]
                        refine wpAnyH_take (i := 15) (oi := ?oi226) (v := ?v226) ?hi226 ?hs226 ?hf226 ?hr226 ?hQ226 (Or.inl ⟨?hg226, ?hy226⟩) hHeld ?rest226
                        case hi226 => simp only [List.getElem?_toArray, List.getElem?_cons_succ, List.getElem?_cons_zero]; rfl
                        case hs226 => kernel_rfl
                        case hf226 => kernel_rfl
                        case hr226 => kernel_rfl
                        case hg226 => rfl
                        case hy226 => (intro w hSw; first | (go_simp; done) | (go_simp; with_reducible rfl))
                        case hQ226 => exact fun _ _ _ h => h
                        try simp only [Act.put, List.setIfInBounds_toArray, List.set_cons_zero, List.set_cons_succ]
                        refine wpAnyH_take (i := 16) (oi := ?oi227) (v := ?v227) ?hi227 ?hs227 ?hf227 ?hr227 ?hQ227 (Or.inl ⟨?hg227, ?hy227⟩) hHeld ?rest227
                        case hi227 => simp only [List.getElem?_toArray, List.getElem?_cons_succ, List.getElem?_cons_zero]; rfl
                        case hs227 => kernel_rfl
                        case hf227 => kernel_rfl
                        case hr227 => kernel_rfl
                        case hg227 => rfl
                        case hy227 => (intro w hSw; first | (go_simp; done) | (go_simp; with_reducible rfl))
                        case hQ227 => exact fun _ _ _ h => h
                        try simp only [Act.put, List.setIfInBounds_toArray, List.set_cons_zero, List.set_cons_succ]
                        refine wpAnyH_take (i := 17) (oi := ?oi228) (v := ?v228) ?hi228 ?hs228 ?hf228 ?hr228 ?hQ228 (Or.inl ⟨?hg228, ?hy228⟩) hHeld ?rest228
                        case hi228 => simp only [List.getElem?_toArray, List.getElem?_cons_succ, List.getElem?_cons_zero]; rfl
                        case hs228 => kernel_rfl
                        case hf228 => kernel_rfl
                        case hr228 => kernel_rfl
                        case hg228 => rfl
                        case hy228 => (intro w hSw; first | (go_simp; done) | (go_simp; with_reducible rfl))
                        case hQ228 => exact fun _ _ _ h => h
                        try simp only [Act.put, List.setIfInBounds_toArray, List.set_cons_zero, List.set_cons_succ]
                        refine wpAnyH_take (i := 18) (oi := ?oi229) (v := ?v229) ?hi229 ?hs229 ?hf229 ?hr229 ?hQ229 (Or.inl ⟨?hg229, ?hy229⟩) hHeld ?rest229
                        case hi229 => simp only [List.getElem?_toArray, List.getElem?_cons_succ, List.getElem?_cons_zero]; rfl
                        case hs229 => kernel_rfl
                        case hf229 => kernel_rfl
                        case hr229 => kernel_rfl
                        case hg229 => rfl
                        case hy229 => (intro w hSw; first | (go_simp; done) | (go_simp; with_reducible rfl))
                        case hQ229 => exact fun _ _ _ h => h
                        try simp only [Act.put, List.setIfInBounds_toArray, List.set_cons_zero, List.set_cons_succ]
                        refine wpAnyH_take (i := 19) (oi := ?oi230) (v := ?v230) ?hi230 ?hs230 ?hf230 ?hr230 ?hQ230 (Or.inl ⟨?hg230, ?hy230⟩) hHeld ?rest230
                        case hi230 => simp only [List.getElem?_toArray, List.getElem?_cons_succ, List.getElem?_cons_zero]; rfl
                        case hs230 => kernel_rfl
                        case hf230 => kernel_rfl
                        case hr230 => kernel_rfl
                        case hg230 => rfl
                        case hy230 => (intro w hSw; first | (go_simp; done) | (go_simp; with_reducible rfl))
                        case hQ230 => exact fun _ _ _ h => h
                        try simp only [Act.put, List.setIfInBounds_toArray, List.set_cons_zero, List.set_cons_succ]
                        refine wpAnyH_take (i := 20) (oi := ?oi231) (v := (.agg (encR x).toArray)) ?hi231 ?hs231 ?hf231 ?hr231 ?hQ231 (Or.inl ⟨?hg231, ?hy231⟩) hHeld ?rest231
                        case hi231 => simp only [List.getElem?_toArray, List.getElem?_cons_succ, List.getElem?_cons_zero]; rfl
                        case hs231 => kernel_rfl
                        case hf231 => kernel_rfl
                        case hr231 => kernel_rfl
                        case hg231 => rfl
                        case hy231 => (intro w hSw; exact run_load_op 105 (.tmp 74) (by exact rfl) b (o + k * 259) (by exact rfl) (encR x) _ (fun j v hj => DG.out.grown hSw.1 HBL.out HBN.out j v hj) Try.underlying105 rfl HSZE.out)
                        case hQ231 => exact fun _ _ _ h => h
                        try simp only [Act.put, List.setIfInBounds_toArray, List.set_cons_zero, List.set_cons_succ]
                        refine wpAnyH_take (i := 21) (oi := ?oi232) (v := ?v232) ?hi232 ?hs232 ?hf232 ?hr232 ?hQ232 (Or.inl ⟨?hg232, ?hy232⟩) hHeld ?rest232
                        case hi232 => simp only [List.getElem?_toArray, List.getElem?_cons_succ, List.getElem?_cons_zero]; rfl
                        case hs232 => kernel_rfl
                        case hf232 => kernel_rfl
                        case hr232 => kernel_rfl
                        case hg232 => rfl
                        case hy232 => (intro w hSw; first | (go_simp; done) | (go_simp; with_reducible rfl))
                        case hQ232 => exact fun _ _ _ h => h
                        try simp only [Act.put, List.setIfInBounds_toArray, List.set_cons_zero, List.set_cons_succ]
                        refine wpAnyH_take (i := 22) (oi := ?oi233) (v := ?v233) ?hi233 ?hs233 ?hf233 ?hr233 ?hQ233 (Or.inl ⟨?hg233, ?hy233⟩) hHeld ?rest233
                        case hi233 => simp only [List.getElem?_toArray, List.getElem?_cons_succ, List.getElem?_cons_zero]; rfl
                        case hs233 => kernel_rfl
                        case hf233 => kernel_rfl
                        case hr233 => kernel_rfl
                        case hg233 => rfl
                        case hy233 => (intro w hSw; first | (go_simp; done) | (go_simp; with_reducible rfl))
                        case hQ233 => exact fun _ _ _ h => h
                        try simp only [Act.put, List.setIfInBounds_toArray, List.set_cons_zero, List.set_cons_succ]
                        refine wpAnyH_take (i := 23) (oi := ?oi234) (v := ?v234) ?hi234 ?hs234 ?hf234 ?hr234 ?hQ234 (Or.inl ⟨?hg234, ?hy234⟩) hHeld ?rest234
                        case hi234 => simp only [List.getElem?_toArray, List.getElem?_cons_succ, List.getElem?_cons_zero]; rfl
                        case hs234 => kernel_rfl
                        case hf234 => kernel_rfl
                        case hr234 => kernel_rfl
                        case hg234 => rfl
                        case hy234 => (intro w hSw; first | (go_simp; done) | (go_simp; with_reducible rfl))
                        case hQ234 => exact fun _ _ _ h => h
                        try simp only [Act.put, List.setIfInBounds_toArray, List.set_cons_zero, List.set_cons_succ]
                        refine wpAnyH_take (i := 24) (oi := ?oi235) (v := ?v235) ?hi235 ?hs235 ?hf235 ?hr235 ?hQ235 (Or.inl ⟨?hg235, ?hy235⟩) hHeld ?rest235
                        case hi235 => simp only [List.getElem?_toArray, List.getElem?_cons_succ, List.getElem?_cons_zero]; rfl
                        case hs235 => kernel_rfl
                        case hf235 => kernel_rfl
                        case hr235 => kernel_rfl
                        case hg235 => rfl
                        case hy235 => (intro w hSw; first | (go_simp; done) | (go_simp; with_reducible rfl))
                        case hQ235 => exact fun _ _ _ h => h
                        try simp only [Act.put, List.setIfInBounds_toArray, List.set_cons_zero, List.set_cons_succ]
                        refine wpAnyH_ready (rs := [25]) (by kernel_rfl) (by simp) ?_
                        refine AllReadyH.cons (o := ?oi236) ?hi236 (fun K hK => ?_) AllReadyH.nil
                        case hi236 => simp only [List.getElem?_toArray, List.getElem?_cons_succ, List.getElem?_cons_zero]; rfl
                        go_simp; go_at_call 88; refine (refTakes_any x cc wr.drew HXS.out).mono ?_; rintro e w5 ⟨rfl, hb5⟩; go_wp2_with fail
                        have hb6 : Below wr.heap.size wr w5 := (Below.refl _ _).drew.trans hb5
                        refine hK.out _ _ (⟨gb hb6 _, (cell_below CN.out hb6)⟩) (fun hHeld2 => ?_)
                        clear hK K hHeld
                        have hHeld := hHeld2
                        clear hHeld2
                        try simp only [Act.put, List.setIfInBounds_toArray, List.set_cons_zero, List.set_cons_succ]
                        have HB6 := Lib.hid hb6
                        clear hb5 hb6 c9 f9
                        refine wpAnyH_take (i := 26) (oi := ?oi237) (v := ?v237) ?hi237 ?hs237 ?hf237 ?hr237 ?hQ237 (Or.inl ⟨?hg237, ?hy237⟩) hHeld ?rest237
                        case hi237 => simp only [List.getElem?_toArray, List.getElem?_cons_succ, List.getElem?_cons_zero]; rfl
                        case hs237 => kernel_rfl
                        case hf237 => kernel_rfl
                        case hr237 => kernel_rfl
                        case hg237 => rfl
                        case hy237 => (intro w hSw; first | (go_simp; done) | (go_simp; with_reducible rfl))
                        case hQ237 => exact fun _ _ _ h => h
                        try simp only [Act.put, List.setIfInBounds_toArray, List.set_cons_zero, List.set_cons_succ]
                        refine wpAnyH_take (i := 27) (oi := ?oi238) (v := ?v238) ?hi238 ?hs238 ?hf238 ?hr238 ?hQ238 (Or.inl ⟨?hg238, ?hy238⟩) hHeld ?rest238
                        case hi238 => simp only [List.getElem?_toArray, List.getElem?_cons_succ, List.getElem?_cons_zero]; rfl
                        case hs238 => kernel_rfl
                        case hf238 => kernel_rfl
                        case hr238 => kernel_rfl
                        case hg238 => rfl
                        case hy238 => (intro w hSw; first | (go_simp; done) | (go_simp; with_reducible rfl))
                        case hQ238 => exact fun _ _ _ h => h
                        try simp only [Act.put, List.setIfInBounds_toArray, List.set_cons_zero, List.set_cons_succ]
                        refine wpAnyH_take (i := 28) (oi := ?oi239) (v := ?v239) ?hi239 ?hs239 ?hf239 ?hr239 ?hQ239 (Or.inl ⟨?hg239, ?hy239⟩) hHeld ?rest239
                        case hi239 => simp only [List.getElem?_toArray, List.getElem?_cons_succ, List.getElem?_cons_zero]; rfl
                        case hs239 => kernel_rfl
                        case hf239 => kernel_rfl
                        case hr239 => kernel_rfl
                        case hg239 => rfl
                        case hy239 => (intro w hSw; first | (go_simp; done) | (go_simp; with_reducible rfl))
                        case hQ239 => exact fun _ _ _ h => h
                        try simp only [Act.put, List.setIfInBounds_toArray, List.set_cons_zero, List.set_cons_succ]
                        have c9 := (D2.out.below HB6.out).cell (j1 + 1)
                        rw [bools_at (by rw [tpar_len, HSS.out]; omega)] at c9
                        have f9 := (D2.out.below HB6.out).frozen (j1 + 1)
                        refine wpAnyH_ready (rs := [29]) (by kernel_rfl) (by simp) ?_
                        refine AllReadyH.cons (o := ?oi240) ?hi240 (fun K hK => ?_) AllReadyH.nil
                        case hi240 => simp only [List.getElem?_toArray, List.getElem?_cons_succ, List.getElem?_cons_zero]; rfl
                        go_simp
                        refine hK.out _ _ (⟨grown_set (gb HB6.out _) _ _, (cell_other _ (by omega)).trans (cell_below CN.out HB6.out)⟩) (fun hHeld2 => ?_)
                        clear hK K hHeld
                        have hHeld := hHeld2
                        clear hHeld2
                        try simp only [Act.put, List.setIfInBounds_toArray, List.set_cons_zero, List.set_cons_succ]
                        refine wpAnyH_done (by kernel_rfl) ?_ _
                        clear hHeld c9 f9
                        go_wp2_with fail
                        go_roundw
                        case rel => exact ⟨(j1 + 1) + 1, by first | rfl | go_num, by omega, by rw [← tpar_set L s.data.toList (k + 1) (by have := HSS.out; omega) (by rw [KT.out, hn0, Bool.true_and]), ← bools_set]; exact (D2.out.below HB6.out).set _ _, (D1.out.below HB6.out).other E4.out _, by rw [← HA.out]; exact sl_set (DS.out.below HB6.out) E3.out _ _, Below.setCell (DB.out.trans ((HB6.out).mono DB.out.size)) hsz1 _⟩
                        case measure => simp [intOf] <;> omega
                · have y2 : ((krF x.k : Int) == 2) = false := by
                    have : krF x.k ≠ 2 := by unfold krF; split <;> (try split) <;> omega
                    simp; omega
                  have y3 : ((krF x.k : Int) == 3) = false := by
                    have : krF x.k ≠ 3 := by unfold krF; split <;> (try split) <;> omega
                    simp; omega
                  have SG := Lib.hid (show starG x = false by unfold starG; simp [z1, z2])
                  clear z1 z2
                  go_wp2_with fail
                  cases j with
                  | zero =>
                    refine wp_region_held_drew (S := fun w' => wr.grownBy w' (some g2)) (by kernel_rfl) ((gb (Below.refl _ _).drew _)) (fun hHeld => ?_)
                    refine wpAnyH_take (i := 0) (oi := ?oi241) (v := ?v241) ?hi241 ?hs241 ?hf241 ?hr241 ?hQ241 (Or.inl ⟨?hg241, ?hy241⟩) hHeld ?rest241
                    case hi241 => simp only [List.getElem?_toArray, List.getElem?_cons_succ, List.getElem?_cons_zero]; rfl
                    case hs241 => kernel_rfl
                    case hf241 => kernel_rfl
                    case hr241 => kernel_rfl
                    case hg241 => rfl
                    case hy241 => (intro w hSw; first | (go_simp; done) | (go_simp; with_reducible rfl))
                    case hQ241 => exact fun _ _ _ h => h
                    try simp only [Act.put, List.setIfInBounds_toArray, List.set_cons_zero, List.set_cons_succ]
                    refine wpAnyH_take (i := 1) (oi := ?oi242) (v := ?v242) ?hi242 ?hs242 ?hf242 ?hr242 ?hQ242 (Or.inl ⟨?hg242, ?hy242⟩) hHeld ?rest242
                    case hi242 => simp only [List.getElem?_toArray, List.getElem?_cons_succ, List.getElem?_cons_zero]; rfl
                    case hs242 => kernel_rfl
                    case hf242 => kernel_rfl
                    case hr242 => kernel_rfl
                    case hg242 => rfl
                    case hy242 => (intro w hSw; first | (go_simp; done) | (go_simp; with_reducible rfl))
                    case hQ242 => exact fun _ _ _ h => h
                    try simp only [Act.put, List.setIfInBounds_toArray, List.set_cons_zero, List.set_cons_succ]
                    refine wpAnyH_take (i := 2) (oi := ?oi243) (v := ?v243) ?hi243 ?hs243 ?hf243 ?hr243 ?hQ243 (Or.inl ⟨?hg243, ?hy243⟩) hHeld ?rest243
                    case hi243 => simp only [List.getElem?_toArray, List.getElem?_cons_succ, List.getElem?_cons_zero]; rfl
                    case hs243 => kernel_rfl
                    case hf243 => kernel_rfl
                    case hr243 => kernel_rfl
                    case hg243 => rfl
                    case hy243 => (intro w hSw; first | (go_simp; done) | (go_simp; with_reducible rfl))
                    case hQ243 => exact fun _ _ _ h => h
                    try simp only [Act.put, List.setIfInBounds_toArray, List.set_cons_zero, List.set_cons_succ]
                    refine wpAnyH_take (i := 3) (oi := ?oi244) (v := ?v244) ?hi244 ?hs244 ?hf244 ?hr244 ?hQ244 (Or.inl ⟨?hg244, ?hy244⟩) hHeld ?rest244
                    case hi244 => simp only [List.getElem?_toArray, List.getElem?_cons_succ, List.getElem?_cons_zero]; rfl
                    case hs244 => kernel_rfl
                    case hf244 => kernel_rfl
                    case hr244 => kernel_rfl
                    case hg244 => rfl
                    case hy244 => (intro w hSw; first | (go_simp; done) | (go_simp; with_reducible rfl))
                    case hQ244 => exact fun _ _ _ h => h
                    try simp only [Act.put, List.setIfInBounds_toArray, List.set_cons_zero, List.set_cons_succ]
                    refine wpAnyH_take (i := 4) (oi := ?oi245) (v := ?v245) ?hi245 ?hs245 ?hf245 ?hr245 ?hQ245 (Or.inl ⟨?hg245, ?hy245⟩) hHeld ?rest245
                    case hi245 => simp only [List.getElem?_toArray, List.getElem?_cons_succ, List.getElem?_cons_zero]; rfl
                    case hs245 => kernel_rfl
                    case hf245 => kernel_rfl
                    case hr245 => kernel_rfl
                    case hg245 => rfl
                    case hy245 => (intro w hSw; first | (go_simp; done) | (go_simp; with_reducible rfl))
                    case hQ245 => exact fun _ _ _ h => h
                    try simp only [Act.put, List.setIfInBounds_toArray, List.set_cons_zero, List.set_cons_succ]
                    refine wpAnyH_take (i := 5) (oi := ?oi246) (v := _) ?hi246 ?hs246 ?hf246 ?hr246 ?hQ246 (Or.inr ⟨?hg246, rfl⟩) hHeld ?rest246
                    case hi246 => simp only [List.getElem?_toArray, List.getElem?_cons_succ, List.getElem?_cons_zero]; rfl
                    case hs246 => kernel_rfl
                    case hf246 => kernel_rfl
                    case hr246 => kernel_rfl
                    case hg246 => rfl
                    case hQ246 => exact fun _ _ _ h => h
                    try simp only [Act.put, List.setIfInBounds_toArray, List.set_cons_zero, List.set_cons_succ]
                    refine wpAnyH_take (i := 6) (oi := ?oi247) (v := _) ?hi247 ?hs247 ?hf247 ?hr247 ?hQ247 (Or.inr ⟨?hg247, rfl⟩) hHeld ?rest247
                    case hi247 => simp only [List.getElem?_toArray, List.getElem?_cons_succ, List.getElem?_cons_zero]; rfl
                    case hs247 => kernel_rfl
                    case hf247 => kernel_rfl
                    case hr247 => kernel_rfl
                    case hg247 => rfl
                    case hQ247 => exact fun _ _ _ h => h
                    try simp only [Act.put, List.setIfInBounds_toArray, List.set_cons_zero, List.set_cons_succ]
                    refine wpAnyH_take (i := 7) (oi := ?oi248) (v := _) ?hi248 ?hs248 ?hf248 ?hr248 ?hQ248 (Or.inr ⟨?hg248, rfl⟩) hHeld ?rest248
                    case hi248 => simp only [List.getElem?_toArray, List.getElem?_cons_succ, List.getElem?_cons_zero]; rfl
                    case hs248 => kernel_rfl
                    case hf248 => kernel_rfl
                    case hr248 => kernel_rfl
                    case hg248 => rfl
                    case hQ248 => exact fun _ _ _ h => h
                    try simp only [Act.put, List.setIfInBounds_toArray, List.set_cons_zero, List.set_cons_succ]
                    refine wpAnyH_take (i := 8) (oi := ?oi249) (v := _) ?hi249 ?hs249 ?hf249 ?hr249 ?hQ249 (Or.inr ⟨?hg249, rfl⟩) hHeld ?rest249
                    case hi249 => simp only [List.getElem?_toArray, List.getElem?_cons_succ, List.getElem?_cons_zero]; rfl
                    case hs249 => kernel_rfl
                    case hf249 => kernel_rfl
                    case hr249 => kernel_rfl
                    case hg249 => rfl
                    case hQ249 => exact fun _ _ _ h => h
                    try simp only [Act.put, List.setIfInBounds_toArray, List.set_cons_zero, List.set_cons_succ]
                    refine wpAnyH_take (i := 9) (oi := ?oi250) (v := _) ?hi250 ?hs250 ?hf250 ?hr250 ?hQ250 (Or.inr ⟨?hg250, rfl⟩) hHeld ?rest250
                    case hi250 => simp only [List.getElem?_toArray, List.getElem?_cons_succ, List.getElem?_cons_zero]; rfl
                    case hs250 => kernel_rfl
                    case hf250 => kernel_rfl
                    case hr250 => kernel_rfl
                    case hg250 => rfl
                    case hQ250 => exact fun _ _ _ h => h
                    try simp only [Act.put, List.setIfInBounds_toArray, List.set_cons_zero, List.set_cons_succ]
                    refine wpAnyH_take (i := 10) (oi := ?oi251) (v := ?v251) ?hi251 ?hs251 ?hf251 ?hr251 ?hQ251 (Or.inl ⟨?hg251, ?hy251⟩) hHeld ?rest251
                    case hi251 => simp only [List.getElem?_toArray, List.getElem?_cons_succ, List.getElem?_cons_zero]; rfl
                    case hs251 => kernel_rfl
                    case hf251 => kernel_rfl
                    case hr251 => kernel_rfl
                    case hg251 => rfl
                    case hy251 => (intro w hSw; first | (go_simp; done) | (go_simp; with_reducible rfl))
                    case hQ251 => exact fun _ _ _ h => h
                    try simp only [Act.put, List.setIfInBounds_toArray, List.set_cons_zero, List.set_cons_succ]
                    refine wpAnyH_take (i := 11) (oi := ?oi252) (v := ?v252) ?hi252 ?hs252 ?hf252 ?hr252 ?hQ252 (Or.inl ⟨?hg252, ?hy252⟩) hHeld ?rest252
                    case hi252 => simp only [List.getElem?_toArray, List.getElem?_cons_succ, List.getElem?_cons_zero]; rfl
                    case hs252 => kernel_rfl
                    case hf252 => kernel_rfl
                    case hr252 => kernel_rfl
                    case hg252 => rfl
                    case hy252 => (intro w hSw; first | (go_simp; done) | (go_simp; with_reducible rfl))
                    case hQ252 => exact fun _ _ _ h => h
                    try simp only [Act.put, List.setIfInBounds_toArray, List.set_cons_zero, List.set_cons_succ]
                    refine wpAnyH_take (i := 12) (oi := ?oi253) (v := _) ?hi253 ?hs253 ?hf253 ?hr253 ?hQ253 (Or.inr ⟨?hg253, rfl⟩) hHeld ?rest253
                    case hi253 => simp only [List.getElem?_toArray, List.getElem?_cons_succ, List.getElem?_cons_zero]; rfl
                    case hs253 => kernel_rfl
                    case hf253 => kernel_rfl
                    case hr253 => kernel_rfl
                    case hg253 => rfl
                    case hQ253 => exact fun _ _ _ h => h
                    try simp only [Act.put, List.setIfInBounds_toArray, List.set_cons_zero, List.set_cons_succ]
                    refine wpAnyH_take (i := 13) (oi := ?oi254) (v := _) ?hi254 ?hs254 ?hf254 ?hr254 ?hQ254 (Or.inr ⟨?hg254, rfl⟩) hHeld ?rest254
                    case hi254 => simp only [List.getElem?_toArray, List.getElem?_cons_succ, List.getElem?_cons_zero]; rfl
                    case hs254 => kernel_rfl
                    case hf254 => kernel_rfl
                    case hr254 => kernel_rfl
                    case hg254 => rfl
                    case hQ254 => exact fun _ _ _ h => h
                    try simp only [Act.put, List.setIfInBounds_toArray, List.set_cons_zero, List.set_cons_succ]
                    refine wpAnyH_take (i := 14) (oi := ?oi255) (v := _) ?hi255 ?hs255 ?hf255 ?hr255 ?hQ255 (Or.inr ⟨?hg255, rfl⟩) hHeld ?rest255
                    case hi255 => simp only [List.getElem?_toArray, List.getElem?_cons_succ, List.getElem?_cons_zero]; rfl
                    case hs255 => kernel_rfl
                    case hf255 => kernel_rfl
                    case hr255 => kernel_rfl
                    case hg255 => rfl
                    case hQ255 => exact fun _ _ _ h => h
                    try simp only [Act.put, List.setIfInBounds_toArray, List.set_cons_zero, List.set_cons_succ]
                    refine wpAnyH_take (i := 15) (oi := ?oi256) (v := _) ?hi256 ?hs256 ?hf256 ?hr256 ?hQ256 (Or.inr ⟨?hg256, rfl⟩) hHeld ?rest256
                    case hi256 => simp only [List.getElem?_toArray, List.getElem?_cons_succ, List.getElem?_cons_zero]; rfl
                    case hs256 => kernel_rfl
                    case hf256 => kernel_rfl
                    case hr256 => kernel_rfl
                    case hg256 => rfl
                    case hQ256 => exact fun _ _ _ h => h
                    try simp only [Act.put, List.setIfInBounds_toArray, List.set_cons_zero, List.set_cons_succ]
                    refine wpAnyH_take (i := 16) (oi := ?oi257) (v := _) ?hi257 ?hs257 ?hf257 ?hr257 ?hQ257 (Or.inr ⟨?hg257, rfl⟩) hHeld ?rest257
                    case hi257 => simp only [List.getElem?_toArray, List.getElem?_cons_succ, List.getElem?_cons_zero]; rfl
                    case hs257 => kernel_rfl
                    case hf257 => kernel_rfl
                    case hr257 => kernel_rfl
                    case hg257 => rfl
                    case hQ257 => exact fun _ _ _ h => h
                    try simp only [Act.put, List.setIfInBounds_toArray, List.set_cons_zero, List.set_cons_succ]
                    refine wpAnyH_take (i := 17) (oi := ?oi258) (v := _) ?hi258 ?hs258 ?hf258 ?hr258 ?hQ258 (Or.inr ⟨?hg258, rfl⟩) hHeld ?rest258
                    case hi258 => simp only [List.getElem?_toArray, List.getElem?_cons_succ, List.getElem?_cons_zero]; rfl
                    case hs258 => kernel_rfl
                    case hf258 => kernel_rfl
                    case hr258 => kernel_rfl
                    case hg258 => rfl
                    case hQ258 => exact fun _ _ _ h => h
                    try simp only [Act.put, List.setIfInBounds_toArray, List.set_cons_zero, List.set_cons_succ]
                    refine wpAnyH_take (i := 18) (oi := ?oi259) (v := _) ?hi259 ?hs259 ?hf259 ?hr259 ?hQ259 (Or.inr ⟨?hg259, rfl⟩) hHeld ?rest259
                    case hi259 => simp only [List.getElem?_toArray, List.getElem?_cons_succ, List.getElem?_cons_zero]; rfl
                    case hs259 => kernel_rfl
                    case hf259 => kernel_rfl
                    case hr259 => kernel_rfl
                    case hg259 => rfl
                    case hQ259 => exact fun _ _ _ h => h
                    try simp only [Act.put, List.setIfInBounds_toArray, List.set_cons_zero, List.set_cons_succ]
                    refine wpAnyH_take (i := 19) (oi := ?oi260) (v := _) ?hi260 ?hs260 ?hf260 ?hr260 ?hQ260 (Or.inr ⟨?hg260, rfl⟩) hHeld ?rest260
                    case hi260 => simp only [List.getElem?_toArray, List.getElem?_cons_succ, List.getElem?_cons_zero]; rfl
                    case hs260 => kernel_rfl
                    case hf260 => kernel_rfl
                    case hr260 => kernel_rfl
                    case hg260 => rfl
                    case hQ260 => exact fun _ _ _ h => h
                    try simp only [Act.put, List.setIfInBounds_toArray, List.set_cons_zero, List.set_cons_succ]
                    refine wpAnyH_take (i := 20) (oi := ?oi261) (v := _) ?hi261 ?hs261 ?hf261 ?hr261 ?hQ261 (Or.inr ⟨?hg261, rfl⟩) hHeld ?rest261
                    case hi261 => simp only [List.getElem?_toArray, List.getElem?_cons_succ, List.getElem?_cons_zero]; rfl
                    case hs261 => kernel_rfl
                    case hf261 => kernel_rfl
                    case hr261 => kernel_rfl
                    case hg261 => rfl
                    case hQ261 => exact fun _ _ _ h => h
                    try simp only [Act.put, List.setIfInBounds_toArray, List.set_cons_zero, List.set_cons_succ]
                    refine wpAnyH_take (i := 21) (oi := ?oi262) (v := ?v262) ?hi262 ?hs262 ?hf262 ?hr262 ?hQ262 (Or.inl ⟨?hg262, ?hy262⟩) hHeld ?rest262
                    case hi262 => simp only [List.getElem?_toArray, List.getElem?_cons_succ, List.getElem?_cons_zero]; rfl
                    case hs262 => kernel_rfl
                    case hf262 => kernel_rfl
                    case hr262 => kernel_rfl
                    case hg262 => rfl
                    case hy262 => (intro w hSw; first | (go_simp; done) | (go_simp; with_reducible rfl))
                    case hQ262 => exact fun _ _ _ h => h
                    try simp only [Act.put, List.setIfInBounds_toArray, List.set_cons_zero, List.set_cons_succ]
                    refine wpAnyH_take (i := 22) (oi := ?oi263) (v := ?v263) ?hi263 ?hs263 ?hf263 ?hr263 ?hQ263 (Or.inl ⟨?hg263, ?hy263⟩) hHeld ?rest263
                    case hi263 => simp only [List.getElem?_toArray, List.getElem?_cons_succ, List.getElem?_cons_zero]; rfl
                    case hs263 => kernel_rfl
                    case hf263 => kernel_rfl
                    case hr263 => kernel_rfl
                    case hg263 => rfl
                    case hy263 => (intro w hSw; first | (go_simp; done) | (go_simp; with_reducible rfl))
                    case hQ263 => exact fun _ _ _ h => h
                    try simp only [Act.put, List.setIfInBounds_toArray, List.set_cons_zero, List.set_cons_succ]
                    refine wpAnyH_ready (rs := [23]) (by kernel_rfl) (by simp) ?_
                    refine AllReadyH.cons (o := ?oi264) ?hi264 (fun K hK => ?_) AllReadyH.nil
                    case hi264 => simp only [List.getElem?_toArray, List.getElem?_cons_succ, List.getElem?_cons_zero]; rfl
                    go_simp
                    refine hK.out _ _ ((grown_set (gb (Below.refl _ _).drew _) _ _)) (fun hHeld2 => ?_)
                    clear hK K hHeld
                    have hHeld := hHeld2
                    clear hHeld2
                    try simp only [Act.put, List.setIfInBounds_toArray, List.set_cons_zero, List.set_cons_succ]
                    refine wpAnyH_done (by kernel_rfl) ?_ _
                    clear hHeld c9 f9
                    go_wp2_with fail
                    go_roundw
                    case rel => exact ⟨0 + 1, by first | rfl | go_num, by omega, by rw [← tpar_set L s.data.toList (k + 1) (by have := HSS.out; omega) (tab_no_0 HX.out SG.out), ← bools_set]; exact (D2.out.set _ _).drew, (D1.out.other E4.out _).drew, by rw [← HA.out]; exact (sl_set DS.out E3.out _ _).drew, (Below.setCell DB.out hsz1 _).drew⟩
                    case measure => simp [intOf] <;> omega
                  | succ j1 =>
                    obtain ⟨cc, hcc⟩ : ∃ cc, s[j1]'(by omega) = cc := ⟨_, rfl⟩
                    have HCC := Lib.hid (show s.data.toList[j1]?.getD 0 = cc by rw [data_at s j1 (by omega), hcc]; rfl)
                    have ej : ((j1 : Int) + 1 - 1) = (j1 : Int) := by omega
                    have p1 : j1 < m := by omega
                    have p2 : (0 : Int) ≤ (j1 : Int) + 1 := by omega
                    have p3 : (j1 : Int) < (m : Int) := by omega
                    have pw : IntKind.i64.wrap (j1 : Int) = (j1 : Int) := by rw [IntKind.wrap_i64]; omega
                    have p4 : (j1 : Int) < (m : Int) + 1 := by omega
                    have p5 : (0 : Int) < (j1 : Int) + 1 := by omega
                    clear q0 q1 q2
                    have KT := Lib.hid (tab_no_s HX.out SG.out HCC.out)
                    cases hn0 : tab L s.data.toList k j1 with
                    | false =>
                      refine wp_region_held_drew (S := fun w' => wr.grownBy w' (some g2)) (by kernel_rfl) ((gb (Below.refl _ _).drew _)) (fun hHeld => ?_)
                      refine wpAnyH_take (i := 0) (oi := ?oi265) (v := ?v265) ?hi265 ?hs265 ?hf265 ?hr265 ?hQ265 (Or.inl ⟨?hg265, ?hy265⟩) hHeld ?rest265
                      case hi265 => simp only [List.getElem?_toArray, List.getElem?_cons_succ, List.getElem?_cons_zero]; rfl
                      case hs265 => kernel_rfl
                      case hf265 => kernel_rfl
                      case hr265 => kernel_rfl
                      case hg265 => rfl
                      case hy265 => (intro w hSw; first | (go_simp; done) | (go_simp; with_reducible rfl))
                      case hQ265 => exact fun _ _ _ h => h
                      try simp only [Act.put, List.setIfInBounds_toArray, List.set_cons_zero, List.set_cons_succ]
                      refine wpAnyH_take (i := 1) (oi := ?oi266) (v := ?v266) ?hi266 ?hs266 ?hf266 ?hr266 ?hQ266 (Or.inl ⟨?hg266, ?hy266⟩) hHeld ?rest266
                      case hi266 => simp only [List.getElem?_toArray, List.getElem?_cons_succ, List.getElem?_cons_zero]; rfl
                      case hs266 => kernel_rfl
                      case hf266 => kernel_rfl
                      case hr266 => kernel_rfl
                      case hg266 => rfl
                      case hy266 => (intro w hSw; first | (go_simp; done) | (go_simp; with_reducible rfl))
                      case hQ266 => exact fun _ _ _ h => h
                      try simp only [Act.put, List.setIfInBounds_toArray, List.set_cons_zero, List.set_cons_succ]
                      refine wpAnyH_take (i := 2) (oi := ?oi267) (v := ?v267) ?hi267 ?hs267 ?hf267 ?hr267 ?hQ267 (Or.inl ⟨?hg267, ?hy267⟩) hHeld ?rest267
                      case hi267 => simp only [List.getElem?_toArray, List.getElem?_cons_succ, List.getElem?_cons_zero]; rfl
                      case hs267 => kernel_rfl
                      case hf267 => kernel_rfl
                      case hr267 => kernel_rfl
                      case hg267 => rfl
                      case hy267 => (intro w hSw; first | (go_simp; done) | (go_simp; with_reducible rfl))
                      case hQ267 => exact fun _ _ _ h => h
                      try simp only [Act.put, List.setIfInBounds_toArray, List.set_cons_zero, List.set_cons_succ]
                      refine wpAnyH_take (i := 3) (oi := ?oi268) (v := ?v268) ?hi268 ?hs268 ?hf268 ?hr268 ?hQ268 (Or.inl ⟨?hg268, ?hy268⟩) hHeld ?rest268
                      case hi268 => simp only [List.getElem?_toArray, List.getElem?_cons_succ, List.getElem?_cons_zero]; rfl
                      case hs268 => kernel_rfl
                      case hf268 => kernel_rfl
                      case hr268 => kernel_rfl
                      case hg268 => rfl
                      case hy268 => (intro w hSw; first | (go_simp; done) | (go_simp; with_reducible rfl))
                      case hQ268 => exact fun _ _ _ h => h
                      try simp only [Act.put, List.setIfInBounds_toArray, List.set_cons_zero, List.set_cons_succ]
                      refine wpAnyH_take (i := 4) (oi := ?oi269) (v := ?v269) ?hi269 ?hs269 ?hf269 ?hr269 ?hQ269 (Or.inl ⟨?hg269, ?hy269⟩) hHeld ?rest269
                      case hi269 => simp only [List.getElem?_toArray, List.getElem?_cons_succ, List.getElem?_cons_zero]; rfl
                      case hs269 => kernel_rfl
                      case hf269 => kernel_rfl
                      case hr269 => kernel_rfl
                      case hg269 => rfl
                      case hy269 => (intro w hSw; first | (go_simp; done) | (go_simp; with_reducible rfl))
                      case hQ269 => exact fun _ _ _ h => h
                      try simp only [Act.put, List.setIfInBounds_toArray, List.set_cons_zero, List.set_cons_succ]
                      refine wpAnyH_take (i := 5) (oi := ?oi270) (v := ?v270) ?hi270 ?hs270 ?hf270 ?hr270 ?hQ270 (Or.inl ⟨?hg270, ?hy270⟩) hHeld ?rest270
                      case hi270 => simp only [List.getElem?_toArray, List.getElem?_cons_succ, List.getElem?_cons_zero]; rfl
                      case hs270 => kernel_rfl
                      case hf270 => kernel_rfl
                      case hr270 => kernel_rfl
                      case hg270 => rfl
                      case hy270 => (intro w hSw; first | (go_simp; done) | (go_simp; with_reducible rfl))
                      case hQ270 => exact fun _ _ _ h => h
                      try simp only [Act.put, List.setIfInBounds_toArray, List.set_cons_zero, List.set_cons_succ]
                      refine wpAnyH_take (i := 6) (oi := ?oi271) (v := ?v271) ?hi271 ?hs271 ?hf271 ?hr271 ?hQ271 (Or.inl ⟨?hg271, ?hy271⟩) hHeld ?rest271
                      case hi271 => simp only [List.getElem?_toArray, List.getElem?_cons_succ, List.getElem?_cons_zero]; rfl
                      case hs271 => kernel_rfl
                      case hf271 => kernel_rfl
                      case hr271 => kernel_rfl
                      case hg271 => rfl
                      case hy271 => (intro w hSw; first | (go_simp; done) | (go_simp; with_reducible rfl))
                      case hQ271 => exact fun _ _ _ h => h
                      try simp only [Act.put, List.setIfInBounds_toArray, List.set_cons_zero, List.set_cons_succ]
                      refine wpAnyH_take (i := 7) (oi := ?oi272) (v := ?v272) ?hi272 ?hs272 ?hf272 ?hr272 ?hQ272 (Or.inl ⟨?hg272, ?hy272⟩) hHeld ?rest272
                      case hi272 => simp only [List.getElem?_toArray, List.getElem?_cons_succ, List.getElem?_cons_zero]; rfl
                      case hs272 => kernel_rfl
                      case hf272 => kernel_rfl
                      case hr272 => kernel_rfl
                      case hg272 => rfl
                      case hy272 => (intro w hSw; first | (go_simp; done) | (go_simp; with_reducible rfl))
                      case hQ272 => exact fun _ _ _ h => h
                      try simp only [Act.put, List.setIfInBounds_toArray, List.set_cons_zero, List.set_cons_succ]
                      refine wpAnyH_take (i := 8) (oi := ?oi273) (v := ?v273) ?hi273 ?hs273 ?hf273 ?hr273 ?hQ273 (Or.inl ⟨?hg273, ?hy273⟩) hHeld ?rest273
                      case hi273 => simp only [List.getElem?_toArray, List.getElem?_cons_succ, List.getElem?_cons_zero]; rfl
                      case hs273 => kernel_rfl
                      case hf273 => kernel_rfl
                      case hr273 => kernel_rfl
                      case hg273 => rfl
                      case hy273 => (intro w hSw; first | (go_simp; done) | (go_simp; with_reducible rfl))
                      case hQ273 => exact fun _ _ _ h => h
                      try simp only [Act.put, List.setIfInBounds_toArray, List.set_cons_zero, List.set_cons_succ]
                      refine wpAnyH_take (i := 9) (oi := ?oi274) (v := ?v274) ?hi274 ?hs274 ?hf274 ?hr274 ?hQ274 (Or.inl ⟨?hg274, ?hy274⟩) hHeld ?rest274
                      case hi274 => simp only [List.getElem?_toArray, List.getElem?_cons_succ, List.getElem?_cons_zero]; rfl
                      case hs274 => kernel_rfl
                      case hf274 => kernel_rfl
                      case hr274 => kernel_rfl
                      case hg274 => rfl
                      case hy274 => (intro w hSw; have x0 := (D1.out.grown hSw (by simpa using E4.out)).cell j1; rw [bools_at (by rw [trow_len, HSS.out]; omega), trow_at (by have := HSS.out; omega), hn0] at x0; first | (go_simp; done) | (go_simp; with_reducible rfl))
                      case hQ274 => exact fun _ _ _ h => h
                      try simp only [Act.put, List.setIfInBounds_toArray, List.set_cons_zero, List.set_cons_succ]
                      refine wpAnyH_take (i := 10) (oi := ?oi275) (v := ?v275) ?hi275 ?hs275 ?hf275 ?hr275 ?hQ275 (Or.inl ⟨?hg275, ?hy275⟩) hHeld ?rest275
                      case hi275 => simp only [List.getElem?_toArray, List.getElem?_cons_succ, List.getElem?_cons_zero]; rfl
                      case hs275 => kernel_rfl
                      case hf275 => kernel_rfl
                      case hr275 => kernel_rfl
                      case hg275 => rfl
                      case hy275 => (intro w hSw; first | (go_simp; done) | (go_simp; with_reducible rfl))
                      case hQ275 => exact fun _ _ _ h => h
                      try simp only [Act.put, List.setIfInBounds_toArray, List.set_cons_zero, List.set_cons_succ]
                      refine wpAnyH_take (i := 11) (oi := ?oi276) (v := ?v276) ?hi276 ?hs276 ?hf276 ?hr276 ?hQ276 (Or.inl ⟨?hg276, ?hy276⟩) hHeld ?rest276
                      case hi276 => simp only [List.getElem?_toArray, List.getElem?_cons_succ, List.getElem?_cons_zero]; rfl
                      case hs276 => kernel_rfl
                      case hf276 => kernel_rfl
                      case hr276 => kernel_rfl
                      case hg276 => rfl
                      case hy276 => (intro w hSw; first | (go_simp; done) | (go_simp; with_reducible rfl))
                      case hQ276 => exact fun _ _ _ h => h
                      try simp only [Act.put, List.setIfInBounds_toArray, List.set_cons_zero, List.set_cons_succ]
                      refine wpAnyH_take (i := 12) (oi := ?oi277) (v := _) ?hi277 ?hs277 ?hf277 ?hr277 ?hQ277 (Or.inr ⟨?hg277, rfl⟩) hHeld ?rest277
                      case hi277 => simp only [List.getElem?_toArray, List.getElem?_cons_succ, List.getElem?_cons_zero]; rfl
                      case hs277 => kernel_rfl
                      case hf277 => kernel_rfl
                      case hr277 => kernel_rfl
                      case hg277 => rfl
                      case hQ277 => exact fun _ _ _ h => h
                      try simp only [Act.put, List.setIfInBounds_toArray, List.set_cons_zero, List.set_cons_succ]
                      refine wpAnyH_take (i := 13) (oi := ?oi278) (v := _) ?hi278 ?hs278 ?hf278 ?hr278 ?hQ278 (Or.inr ⟨?hg278, rfl⟩) hHeld ?rest278
                      case hi278 => simp only [List.getElem?_toArray, List.getElem?_cons_succ, List.getElem?_cons_zero]; rfl
                      case hs278 => kernel_rfl
                      case hf278 => kernel_rfl
                      case hr278 => kernel_rfl
                      case hg278 => rfl
                      case hQ278 => exact fun _ _ _ h => h
                      try simp only [Act.put, List.setIfInBounds_toArray, List.set_cons_zero, List.set_cons_succ]
                      refine wpAnyH_take (i := 14) (oi := ?oi279) (v := _) ?hi279 ?hs279 ?hf279 ?hr279 ?hQ279 (Or.inr ⟨?hg279, rfl⟩) hHeld ?rest279
                      case hi279 => simp only [List.getElem?_toArray, List.getElem?_cons_succ, List.getElem?_cons_zero]; rfl
                      case hs279 => kernel_rfl
                      case hf279 => kernel_rfl
                      case hr279 => kernel_rfl
                      case hg279 => rfl
                      case hQ279 => exact fun _ _ _ h => h
                      try simp only [Act.put, List.setIfInBounds_toArray, List.set_cons_zero, List.set_cons_succ]
                      refine wpAnyH_take (i := 15) (oi := ?oi280) (v := _) ?hi280 ?hs280 ?hf280 ?hr280 ?hQ280 (Or.inr ⟨?hg280, rfl⟩) hHeld ?rest280
                      case hi280 => simp only [List.getElem?_toArray, List.getElem?_cons_succ, List.getElem?_cons_zero]; rfl
                      case hs280 => kernel_rfl
                      case hf280 => kernel_rfl
                      case hr280 => kernel_rfl
                      case hg280 => rfl
                      case hQ280 => exact fun _ _ _ h => h
                      try simp only [Act.put, List.setIfInBounds_toArray, List.set_cons_zero, List.set_cons_succ]
                      refine wpAnyH_take (i := 16) (oi := ?oi281) (v := _) ?hi281 ?hs281 ?hf281 ?hr281 ?hQ281 (Or.inr ⟨?hg281, rfl⟩) hHeld ?rest281
                      case hi281 => simp only [List.getElem?_toArray, List.getElem?_cons_succ, List.getElem?_cons_zero]; rfl
                      case hs281 => kernel_rfl
                      case hf281 => kernel_rfl
                      case hr281 => kernel_rfl
                      case hg281 => rfl
                      case hQ281 => exact fun _ _ _ h => h
                      try simp only [Act.put, List.setIfInBounds_toArray, List.set_cons_zero, List.set_cons_succ]
                      refine wpAnyH_take (i := 17) (oi := ?oi282) (v := _) ?hi282 ?hs282 ?hf282 ?hr282 ?hQ282 (Or.inr ⟨?hg282, rfl⟩) hHeld ?rest282
                      case hi282 => simp only [List.getElem?_toArray, List.getElem?_cons_succ, List.getElem?_cons_zero]; rfl
                      case hs282 => kernel_rfl
                      case hf282 => kernel_rfl
                      case hr282 => kernel_rfl
                      case hg282 => rfl
                      case hQ282 => exact fun _ _ _ h => h
                      try simp only [Act.put, List.setIfInBounds_toArray, List.set_cons_zero, List.set_cons_succ]
                      refine wpAnyH_take (i := 18) (oi := ?oi283) (v := _) ?hi283 ?hs283 ?hf283 ?hr283 ?hQ283 (Or.inr ⟨?hg283, rfl⟩) hHeld ?rest283
                      case hi283 => simp only [List.getElem?_toArray, List.getElem?_cons_succ, List.getElem?_cons_zero]; rfl
                      case hs283 => kernel_rfl
                      case hf283 => kernel_rfl
                      case hr283 => kernel_rfl
                      case hg283 => rfl
                      case hQ283 => exact fun _ _ _ h => h
                      try simp only [Act.put, List.setIfInBounds_toArray, List.set_cons_zero, List.set_cons_succ]
                      refine wpAnyH_take (i := 19) (oi := ?oi284) (v := _) ?hi284 ?hs284 ?hf284 ?hr284 ?hQ284 (Or.inr ⟨?hg284, rfl⟩) hHeld ?rest284
                      case hi284 => simp only [List.getElem?_toArray, List.getElem?_cons_succ, List.getElem?_cons_zero]; rfl
                      case hs284 => kernel_rfl
                      case hf284 => kernel_rfl
                      case hr284 => kernel_rfl
                      case hg284 => rfl
                      case hQ284 => exact fun _ _ _ h => h
                      try simp only [Act.put, List.setIfInBounds_toArray, List.set_cons_zero, List.set_cons_succ]
                      refine wpAnyH_take (i := 20) (oi := ?oi285) (v := _) ?hi285 ?hs285 ?hf285 ?hr285 ?hQ285 (Or.inr ⟨?hg285, rfl⟩) hHeld ?rest285
                      case hi285 => simp only [List.getElem?_toArray, List.getElem?_cons_succ, List.getElem?_cons_zero]; rfl
                      case hs285 => kernel_rfl
                      case hf285 => kernel_rfl
                      case hr285 => kernel_rfl
                      case hg285 => rfl
                      case hQ285 => exact fun _ _ _ h => h
                      try simp only [Act.put, List.setIfInBounds_toArray, List.set_cons_zero, List.set_cons_succ]
                      refine wpAnyH_take (i := 21) (oi := ?oi286) (v := ?v286) ?hi286 ?hs286 ?hf286 ?hr286 ?hQ286 (Or.inl ⟨?hg286, ?hy286⟩) hHeld ?rest286
                      case hi286 => simp only [List.getElem?_toArray, List.getElem?_cons_succ, List.getElem?_cons_zero]; rfl
                      case hs286 => kernel_rfl
                      case hf286 => kernel_rfl
                      case hr286 => kernel_rfl
                      case hg286 => rfl
                      case hy286 => (intro w hSw; first | (go_simp; done) | (go_simp; with_reducible rfl))
                      case hQ286 => exact fun _ _ _ h => h
                      try simp only [Act.put, List.setIfInBounds_toArray, List.set_cons_zero, List.set_cons_succ]
                      refine wpAnyH_take (i := 22) (oi := ?oi287) (v := ?v287) ?hi287 ?hs287 ?hf287 ?hr287 ?hQ287 (Or.inl ⟨?hg287, ?hy287⟩) hHeld ?rest287
                      case hi287 => simp only [List.getElem?_toArray, List.getElem?_cons_succ, List.getElem?_cons_zero]; rfl
                      case hs287 => kernel_rfl
                      case hf287 => kernel_rfl
                      case hr287 => kernel_rfl
                      case hg287 => rfl
                      case hy287 => (intro w hSw; first | (go_simp; done) | (go_simp; with_reducible rfl))
                      case hQ287 => exact fun _ _ _ h => h
                      try simp only [Act.put, List.setIfInBounds_toArray, List.set_cons_zero, List.set_cons_succ]
                      refine wpAnyH_ready (rs := [23]) (by kernel_rfl) (by simp) ?_
                      refine AllReadyH.cons (o := ?oi288) ?hi288 (fun K hK => ?_) AllReadyH.nil
                      case hi288 => simp only [List.getElem?_toArray, List.getElem?_cons_succ, List.getElem?_cons_zero]; rfl
                      go_simp
                      refine hK.out _ _ ((grown_set (gb (Below.refl _ _).drew _) _ _)) (fun hHeld2 => ?_)
                      clear hK K hHeld
                      have hHeld := hHeld2
                      clear hHeld2
                      try simp only [Act.put, List.setIfInBounds_toArray, List.set_cons_zero, List.set_cons_succ]
                      refine wpAnyH_done (by kernel_rfl) ?_ _
                      clear hHeld c9 f9
                      go_wp2_with fail
                      go_roundw
                      case rel => exact ⟨(j1 + 1) + 1, by first | rfl | go_num, by omega, by rw [← tpar_set L s.data.toList (k + 1) (by have := HSS.out; omega) (by rw [KT.out, hn0, Bool.false_and]), ← bools_set]; exact (D2.out.set _ _).drew, (D1.out.other E4.out _).drew, by rw [← HA.out]; exact (sl_set DS.out E3.out _ _).drew, (Below.setCell DB.out hsz1 _).drew⟩
                      case measure => simp [intOf] <;> omega
                    | true =>
                      refine wp_region_held_drew (S := fun w' => wr.grownBy w' (some g2)) (by kernel_rfl) ((gb (Below.refl _ _).drew _)) (fun hHeld => ?_)
                      refine wpAnyH_take (i := 0) (oi := ?oi289) (v := ?v289) ?hi289 ?hs289 ?hf289 ?hr289 ?hQ289 (Or.inl ⟨?hg289, ?hy289⟩) hHeld ?rest289
                      case hi289 => simp only [List.getElem?_toArray, List.getElem?_cons_succ, List.getElem?_cons_zero]; rfl
                      case hs289 => kernel_rfl
                      case hf289 => kernel_rfl
                      case hr289 => kernel_rfl
                      case hg289 => rfl
                      case hy289 => (intro w hSw; first | (go_simp; done) | (go_simp; with_reducible rfl))
                      case hQ289 => exact fun _ _ _ h => h
                      try simp only [Act.put, List.setIfInBounds_toArray, List.set_cons_zero, List.set_cons_succ]
                      refine wpAnyH_take (i := 1) (oi := ?oi290) (v := ?v290) ?hi290 ?hs290 ?hf290 ?hr290 ?hQ290 (Or.inl ⟨?hg290, ?hy290⟩) hHeld ?rest290
                      case hi290 => simp only [List.getElem?_toArray, List.getElem?_cons_succ, List.getElem?_cons_zero]; rfl
                      case hs290 => kernel_rfl
                      case hf290 => kernel_rfl
                      case hr290 => kernel_rfl
                      case hg290 => rfl
                      case hy290 => (intro w hSw; first | (go_simp; done) | (go_simp; with_reducible rfl))
                      case hQ290 => exact fun _ _ _ h => h
                      try simp only [Act.put, List.setIfInBounds_toArray, List.set_cons_zero, List.set_cons_succ]
                      refine wpAnyH_take (i := 2) (oi := ?oi291) (v := ?v291) ?hi291 ?hs291 ?hf291 ?hr291 ?hQ291 (Or.inl ⟨?hg291, ?hy291⟩) hHeld ?rest291
                      case hi291 => simp only [List.getElem?_toArray, List.getElem?_cons_succ, List.getElem?_cons_zero]; rfl
                      case hs291 => kernel_rfl
                      case hf291 => kernel_rfl
                      case hr291 => kernel_rfl
                      case hg291 => rfl
                      case hy291 => (intro w hSw; first | (go_simp; done) | (go_simp; with_reducible rfl))
                      case hQ291 => exact fun _ _ _ h => h
                      try simp only [Act.put, List.setIfInBounds_toArray, List.set_cons_zero, List.set_cons_succ]
                      refine wpAnyH_take (i := 3) (oi := ?oi292) (v := ?v292) ?hi292 ?hs292 ?hf292 ?hr292 ?hQ292 (Or.inl ⟨?hg292, ?hy292⟩) hHeld ?rest292
                      case hi292 => simp only [List.getElem?_toArray, List.getElem?_cons_succ, List.getElem?_cons_zero]; rfl
                      case hs292 => kernel_rfl
                      case hf292 => kernel_rfl
                      case hr292 => kernel_rfl
                      case hg292 => rfl
                      case hy292 => (intro w hSw; first | (go_simp; done) | (go_simp; with_reducible rfl))
                      case hQ292 => exact fun _ _ _ h => h
                      try simp only [Act.put, List.setIfInBounds_toArray, List.set_cons_zero, List.set_cons_succ]
                      refine wpAnyH_take (i := 4) (oi := ?oi293) (v := ?v293) ?hi293 ?hs293 ?hf293 ?hr293 ?hQ293 (Or.inl ⟨?hg293, ?hy293⟩) hHeld ?rest293
                      case hi293 => simp only [List.getElem?_toArray, List.getElem?_cons_succ, List.getElem?_cons_zero]; rfl
                      case hs293 => kernel_rfl
                      case hf293 => kernel_rfl
                      case hr293 => kernel_rfl
                      case hg293 => rfl
                      case hy293 => (intro w hSw; first | (go_simp; done) | (go_simp; with_reducible rfl))
                      case hQ293 => exact fun _ _ _ h => h
                      try simp only [Act.put, List.setIfInBounds_toArray, List.set_cons_zero, List.set_cons_succ]
                      refine wpAnyH_take (i := 5) (oi := ?oi294) (v := ?v294) ?hi294 ?hs294 ?hf294 ?hr294 ?hQ294 (Or.inl ⟨?hg294, ?hy294⟩) hHeld ?rest294
                      case hi294 => simp only [List.getElem?_toArray, List.getElem?_cons_succ, List.getElem?_cons_zero]; rfl
                      case hs294 => kernel_rfl
                      case hf294 => kernel_rfl
                      case hr294 => kernel_rfl
                      case hg294 => rfl
                      case hy294 => (intro w hSw; first | (go_simp; done) | (go_simp; with_reducible rfl))
                      case hQ294 => exact fun _ _ _ h => h
                      try simp only [Act.put, List.setIfInBounds_toArray, List.set_cons_zero, List.set_cons_succ]
                      refine wpAnyH_take (i := 6) (oi := ?oi295) (v := ?v295) ?hi295 ?hs295 ?hf295 ?hr295 ?hQ295 (Or.inl ⟨?hg295, ?hy295⟩) hHeld ?rest295
                      case hi295 => simp only [List.getElem?_toArray, List.getElem?_cons_succ, List.getElem?_cons_zero]; rfl
                      case hs295 => kernel_rfl
                      case hf295 => kernel_rfl
                      case hr295 => kernel_rfl
                      case hg295 => rfl
                      case hy295 => (intro w hSw; first | (go_simp; done) | (go_simp; with_reducible rfl))
                      case hQ295 => exact fun _ _ _ h => h
                      try simp only [Act.put, List.setIfInBounds_toArray, List.set_cons_zero, List.set_cons_succ]
                      refine wpAnyH_take (i := 7) (oi := ?oi296) (v := ?v296) ?hi296 ?hs296 ?hf296 ?hr296 ?hQ296 (Or.inl ⟨?hg296, ?hy296⟩) hHeld ?rest296
                      case hi296 => simp only [List.getElem?_toArray, List.getElem?_cons_succ, List.getElem?_cons_zero]; rfl
                      case hs296 => kernel_rfl
                      case hf296 => kernel_rfl
                      case hr296 => kernel_rfl
                      case hg296 => rfl
                      case hy296 => (intro w hSw; first | (go_simp; done) | (go_simp; with_reducible rfl))
                      case hQ296 => exact fun _ _ _ h => h
                      try simp only [Act.put, List.setIfInBounds_toArray, List.set_cons_zero, List.set_cons_succ]
                      refine wpAnyH_take (i := 8) (oi := ?oi297) (v := ?v297) ?hi297 ?hs297 ?hf297 ?hr297 ?hQ297 (Or.inl ⟨?hg297, ?hy297⟩) hHeld ?rest297
                      case hi297 => simp only [List.getElem?_toArray, List.getElem?_cons_succ, List.getElem?_cons_zero]; rfl
                      case hs297 => kernel_rfl
                      case hf297 => kernel_rfl
                      case hr297 => kernel_rfl
                      case hg297 => rfl
                      case hy297 => (intro w hSw; first | (go_simp; done) | (go_simp; with_reducible rfl))
                      case hQ297 => exact fun _ _ _ h => h
                      try simp only [Act.put, List.setIfInBounds_toArray, List.set_cons_zero, List.set_cons_succ]
                      refine wpAnyH_take (i := 9) (oi := ?oi298) (v := ?v298) ?hi298 ?hs298 ?hf298 ?hr298 ?hQ298 (Or.inl ⟨?hg298, ?hy298⟩) hHeld ?rest298
                      case hi298 => simp only [List.getElem?_toArray, List.getElem?_cons_succ, List.getElem?_cons_zero]; rfl
                      case hs298 => kernel_rfl
                      case hf298 => kernel_rfl
                      case hr298 => kernel_rfl
                      case hg298 => rfl
                      case hy298 => (intro w hSw; have x0 := (D1.out.grown hSw (by simpa using E4.out)).cell j1; rw [bools_at (by rw [trow_len, HSS.out]; omega), trow_at (by have := HSS.out; omega), hn0] at x0; first | (go_simp; done) | (go_simp; with_reducible rfl))
                      case hQ298 => exact fun _ _ _ h => h
                      try simp only [Act.put, List.setIfInBounds_toArray, List.set_cons_zero, List.set_cons_succ]
                      refine wpAnyH_take (i := 10) (oi := ?oi299) (v := ?v299) ?hi299 ?hs299 ?hf299 ?hr299 ?hQ299 (Or.inl ⟨?hg299, ?hy299⟩) hHeld ?rest299
                      case hi299 => simp only [List.getElem?_toArray, List.getElem?_cons_succ, List.getElem?_cons_zero]; rfl
                      case hs299 => kernel_rfl
                      case hf299 => kernel_rfl
                      case hr299 => kernel_rfl
                      case hg299 => rfl
                      case hy299 => (intro w hSw; first | (go_simp; done) | (go_simp; with_reducible rfl))
                      case hQ299 => exact fun _ _ _ h => h
                      try simp only [Act.put, List.setIfInBounds_toArray, List.set_cons_zero, List.set_cons_succ]
                      refine wpAnyH_take (i := 11) (oi := ?oi300) (v := ?v300) ?hi300 ?hs300 ?hf300 ?hr300 ?hQ300 (Or.inl ⟨?hg300, ?hy300⟩) hHeld ?rest300
                      case hi300 => simp only [List.getElem?_toArray, List.getElem?_cons_succ, List.getElem?_cons_zero]; rfl
                      case hs300 => kernel_rfl
                      case hf300 => kernel_rfl
                      case hr300 => kernel_rfl
                      case hg300 => rfl
                      case hy300 => (intro w hSw; first | (go_simp; done) | (go_simp; with_reducible rfl))
                      case hQ300 => exact fun _ _ _ h => h
                      try simp only [Act.put, List.setIfInBounds_toArray, List.set_cons_zero, List.set_cons_succ]
                      refine wpAnyH_take (i := 12) (oi := ?oi301) (v := ?v301) ?hi301 ?hs301 ?hf301 ?hr301 ?hQ301 (Or.inl ⟨?hg301, ?hy301⟩) hHeld ?rest301
                      case hi301 => simp only [List.getElem?_toArray, List.getElem?_cons_succ, List.getElem?_cons_zero]; rfl
                      case hs301 => kernel_rfl
                      case hf301 => kernel_rfl
                      case hr301 => kernel_rfl
                      case hg301 => rfl
                      case hy301 => (intro w hSw; first | (go_simp; done) | (go_simp; with_reducible rfl))
                      case hQ301 => exact fun _ _ _ h => h
                      try simp only [Act.put, List.setIfInBounds_toArray, List.set_cons_zero, List.set_cons_succ]
                      refine wpAnyH_take (i := 13) (oi := ?oi302) (v := ?v302) ?hi302 ?hs302 ?hf302 ?hr302 ?hQ302 (Or.inl ⟨?hg302, ?hy302⟩) hHeld ?rest302
                      case hi302 => simp only [List.getElem?_toArray, List.getElem?_cons_succ, List.getElem?_cons_zero]; rfl
                      case hs302 => kernel_rfl
                      case hf302 => kernel_rfl
                      case hr302 => kernel_rfl
                      case hg302 => rfl
                      case hy302 => (intro w hSw; first | (go_simp; done) | (go_simp; with_reducible rfl))
                      case hQ302 => exact fun _ _ _ h => h
                      try simp only [Act.put, List.setIfInBounds_toArray, List.set_cons_zero, List.set_cons_succ]
                      refine wpAnyH_take (i := 14) (oi := ?oi303) (v := ?v303) ?hi303 ?hs303 ?hf303 ?hr303 ?hQ303 (Or.inl ⟨?hg303, ?hy303⟩) hHeld ?rest303
                      case hi303 => simp only [List.getElem?_toArray, List.getElem?_cons_succ, List.getElem?_cons_zero]; rfl
                      case hs303 => kernel_rfl
                      case hf303 => kernel_rfl
                      case hr303 => kernel_rfl
                      case hg303 => rfl
                      case hy303 => (intro w hSw; first | (go_simp; done) | (go_simp; with_reducible rfl))
                      case hQ303 => exact fun _ _ _ h => h
                      try simp only [Act.put, List.setIfInBounds_toArray, List.set_cons_zero, List.set_cons_succ]
                      refine wpAnyH_take (i := 15) (oi := ?oi304) (v := (.agg (encR x).toArray)) ?hi304 ?hs304 ?hf304 ?hr304 ?hQ304 (Or.inl ⟨?hg304, ?hy304⟩) hHeld ?rest304
                      case hi304 => simp only [List.getElem?_toArray, List.getElem?_cons_succ, List.getElem?_cons_zero]; rfl
                      case hs304 => kernel_rfl
                      case hf304 => kernel_rfl
                      case hr304 => kernel_rfl
                      case hg304 => rfl
                      case hy304 => (intro w hSw; exact run_load_op 105 (.tmp 98) (by exact rfl) b (o + k * 259) (by exact rfl) (encR x) _ (fun j v hj => DG.out.grown hSw HBL.out HBN.out j v hj) Try.underlying105 rfl HSZE.out)
                      case hQ304 => exact fun _ _ _ h => h
                      try simp only [Act.put, List.setIfInBounds_toArray, List.set_cons_zero, List.set_cons_succ]
                      refine wpAnyH_take (i := 16) (oi := ?oi305) (v := ?v305) ?hi305 ?hs305 ?hf305 ?hr305 ?hQ305 (Or.inl ⟨?hg305, ?hy305⟩) hHeld ?rest305
                      case hi305 => simp only [List.getElem?_toArray, List.getElem?_cons_succ, List.getElem?_cons_zero]; rfl
                      case hs305 => kernel_rfl
                      case hf305 => kernel_rfl
                      case hr305 => kernel_rfl
                      case hg305 => rfl
                      case hy305 => (intro w hSw; first | (go_simp; done) | (go_simp; with_reducible rfl))
                      case hQ305 => exact fun _ _ _ h => h
                      try simp only [Act.put, List.setIfInBounds_toArray, List.set_cons_zero, List.set_cons_succ]
                      refine wpAnyH_take (i := 17) (oi := ?oi306) (v := ?v306) ?hi306 ?hs306 ?hf306 ?hr306 ?hQ306 (Or.inl ⟨?hg306, ?hy306⟩) hHeld ?rest306
                      case hi306 => simp only [List.getElem?_toArray, List.getElem?_cons_succ, List.getElem?_cons_zero]; rfl
                      case hs306 => kernel_rfl
                      case hf306 => kernel_rfl
                      case hr306 => kernel_rfl
                      case hg306 => rfl
                      case hy306 => (intro w hSw; first | (go_simp; done) | (go_simp; with_reducible rfl))
                      case hQ306 => exact fun _ _ _ h => h
                      try simp only [Act.put, List.setIfInBounds_toArray, List.set_cons_zero, List.set_cons_succ]
                      refine wpAnyH_take (i := 18) (oi := ?oi307) (v := ?v307) ?hi307 ?hs307 ?hf307 ?hr307 ?hQ307 (Or.inl ⟨?hg307, ?hy307⟩) hHeld ?rest307
                      case hi307 => simp only [List.getElem?_toArray, List.getElem?_cons_succ, List.getElem?_cons_zero]; rfl
                      case hs307 => kernel_rfl
                      case hf307 => kernel_rfl
                      case hr307 => kernel_rfl
                      case hg307 => rfl
                      case hy307 => (intro w hSw; first | (go_simp; done) | (go_simp; with_reducible rfl))
                      case hQ307 => exact fun _ _ _ h => h
                      try simp only [Act.put, List.setIfInBounds_toArray, List.set_cons_zero, List.set_cons_succ]
                      refine wpAnyH_take (i := 19) (oi := ?oi308) (v := ?v308) ?hi308 ?hs308 ?hf308 ?hr308 ?hQ308 (Or.inl ⟨?hg308, ?hy308⟩) hHeld ?rest308
                      case hi308 => simp only [List.getElem?_toArray, List.getElem?_cons_succ, List.getElem?_cons_zero]; rfl
                      case hs308 => kernel_rfl
                      case hf308 => kernel_rfl
                      case hr308 => kernel_rfl
                      case hg308 => rfl
                      case hy308 => (intro w hSw; first | (go_simp; done) | (go_simp; with_reducible rfl))
                      case hQ308 => exact fun _ _ _ h => h
                      try simp only [Act.put, List.setIfInBounds_toArray, List.set_cons_zero, List.set_cons_succ]
                      refine wpAnyH_ready (rs := [20]) (by kernel_rfl) (by simp) ?_
                      refine AllReadyH.cons (o := ?oi309) ?hi309 (fun K hK => ?_) AllReadyH.nil
                      case hi309 => simp only [List.getElem?_toArray, List.getElem?_cons_succ, List.getElem?_cons_zero]; rfl
                      go_simp; go_at_call 88; refine (refTakes_any x cc wr.drew HXS.out).mono ?_; rintro e w5 ⟨rfl, hb5⟩; go_wp2_with fail
                      have hb6 : Below wr.heap.size wr w5 := (Below.refl _ _).drew.trans hb5
                      refine hK.out _ _ ((gb hb6 _)) (fun hHeld2 => ?_)
                      clear hK K hHeld
                      have hHeld := hHeld2
                      clear hHeld2
                      try simp only [Act.put, List.setIfInBounds_toArray, List.set_cons_zero, List.set_cons_succ]
                      have HB6 := Lib.hid hb6
                      clear hb5 hb6 c9 f9
                      refine wpAnyH_take (i := 21) (oi := ?oi310) (v := ?v310) ?hi310 ?hs310 ?hf310 ?hr310 ?hQ310 (Or.inl ⟨?hg310, ?hy310⟩) hHeld ?rest310
                      case hi310 => simp only [List.getElem?_toArray, List.getElem?_cons_succ, List.getElem?_cons_zero]; rfl
                      case hs310 => kernel_rfl
                      case hf310 => kernel_rfl
                      case hr310 => kernel_rfl
                      case hg310 => rfl
                      case hy310 => (intro w hSw; first | (go_simp; done) | (go_simp; with_reducible rfl))
                      case hQ310 => exact fun _ _ _ h => h
                      try simp only [Act.put, List.setIfInBounds_toArray, List.set_cons_zero, List.set_cons_succ]
                      refine wpAnyH_take (i := 22) (oi := ?oi311) (v := ?v311) ?hi311 ?hs311 ?hf311 ?hr311 ?hQ311 (Or.inl ⟨?hg311, ?hy311⟩) hHeld ?rest311
                      case hi311 => simp only [List.getElem?_toArray, List.getElem?_cons_succ, List.getElem?_cons_zero]; rfl
                      case hs311 => kernel_rfl
                      case hf311 => kernel_rfl
                      case hr311 => kernel_rfl
                      case hg311 => rfl
                      case hy311 => (intro w hSw; first | (go_simp; done) | (go_simp; with_reducible rfl))
                      case hQ311 => exact fun _ _ _ h => h
                      try simp only [Act.put, List.setIfInBounds_toArray, List.set_cons_zero, List.set_cons_succ]
                      have c9 := (D2.out.below HB6.out).cell (j1 + 1)
                      rw [bools_at (by rw [tpar_len, HSS.out]; omega)] at c9
                      have f9 := (D2.out.below HB6.out).frozen (j1 + 1)
                      refine wpAnyH_ready (rs := [23]) (by kernel_rfl) (by simp) ?_
                      refine AllReadyH.cons (o := ?oi312) ?hi312 (fun K hK => ?_) AllReadyH.nil
                      case hi312 => simp only [List.getElem?_toArray, List.getElem?_cons_succ, List.getElem?_cons_zero]; rfl
                      go_simp
                      refine hK.out _ _ ((grown_set (gb HB6.out _) _ _)) (fun hHeld2 => ?_)
                      clear hK K hHeld
                      have hHeld := hHeld2
                      clear hHeld2
                      try simp only [Act.put, List.setIfInBounds_toArray, List.set_cons_zero, List.set_cons_succ]
                      refine wpAnyH_done (by kernel_rfl) ?_ _
                      clear hHeld c9 f9
                      go_wp2_with fail
                      go_roundw
                      case rel => exact ⟨(j1 + 1) + 1, by first | rfl | go_num, by omega, by rw [← tpar_set L s.data.toList (k + 1) (by have := HSS.out; omega) (by rw [KT.out, hn0, Bool.true_and]), ← bools_set]; exact (D2.out.below HB6.out).set _ _, (D1.out.below HB6.out).other E4.out _, by rw [← HA.out]; exact sl_set (DS.out.below HB6.out) E3.out _ _, Below.setCell (DB.out.trans ((HB6.out).mono DB.out.size)) hsz1 _⟩
                      case measure => simp [intOf] <;> omega
            · obtain rfl : j = m + 1 := by omega
              clear hj hjm hb2 hb1 hsl hb
              have hq : ¬ (((m + 1 : Nat) : Int) ≤ (m : Int)) := by omega
              have hq2 : ¬ ((m : Int) + 1 ≤ (m : Int)) := by omega
              have Z1 := Lib.hid (show Blk wr g2 4 (bools (trow L s.data.toList (k + 1))) by rw [← tpar_full, HSS.out]; exact D2.out)
              go_wp2_with fail
              go_roundw
              case rel => exact ⟨k + 1, g2, by go_num, by omega, rfl, Z1.out, DS.out, fun a ha => Nat.lt_of_lt_of_le (E6.out a ha) Z1.out.lt, E3.out, hsz1, DB.out⟩
              case measure => simp [intOf] <;> omega
        · obtain rfl : k = n := by omega
          have D1 := Lib.hid hbk
          have DB := Lib.hid hb
          have hsn := HN.out
          have c0 := hbk.cell m
          have KL : (trow L s.data.toList k)[m]?.getD false = matchF L s.data.toList := by
            rw [trow_at (by have := HSS.out; omega)]; unfold matchF; rw [HN.out, HSS.out]
          rw [bools_at (by rw [trow_len, HSS.out]; omega), KL] at c0
          have q4 : ¬ ((k : Int) < (k : Int)) := by omega
          have q5 : (m : Int) < (m : Int) + 1 := by omega
          clear hbk hb hsl hlt hne h hk KL hsn
          go_wp2_with fail
          go_ret
          exact ⟨by first | (rw [KM.out]; rfl) | (have h9 := KM.out; rw [decide_eq_true hp100, Bool.true_and] at h9; rw [h9]; rfl), HB1.out.trans (DB.out.mono HB1.out.size)⟩
    · exfalso
      have := HK0.out
      unfold chkF at this
      rw [if_neg (by omega), hno] at this
      cases this
  · have KM := Lib.hid (show (decide (p.size ≤ 100) && ((patF p.data.toList).map (matchF · s.data.toList)).getD false) = false by
      unfold chkF at hk0
      rcases Nat.lt_or_ge 100 p.size with h | h
      · rw [decide_eq_false (by omega)]; rfl
      · rw [if_neg (by omega)] at hk0
        cases hpt : patF p.data.toList with
        | none => simp
        | some L => rw [hpt] at hk0; exact absurd rfl hk0)
    have hne : ((chkF p) != 0) = true := by simpa using hk0
    clear hk0
    generalize chkF p = kk at *
    go_wp2_with fail
    go_ret
    exact ⟨by rw [KM.out]; rfl, HB0.out⟩
end Go.Proofs.Ytcagonpnjionhaa

