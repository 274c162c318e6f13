import Derived.Test.YtcagonpnjionhaaQc
import Derived.Test.YtcagonpnjionhaaQb
import Derived.BigQuiet
/-! A pattern's signs, read by the program. -/
set_option linter.unusedVariables false
set_option linter.unusedSimpArgs false
namespace Go.Proofs.Ytcagonpnjionhaa
open Go.RowKit

def encG (g : Sg) : List Value := encK g.k g.c g.nt g.set
def encSs (L : List Sg) : List Value := L.flatMap encG
theorem encSs_snoc (L : List Sg) (g : Sg) : encSs (L ++ [g]) = encSs L ++ encG g := by simp [encSs]
theorem infoG : (Try.prog.info? 90).map (fun i => (i.zero, i.size, i.bytes)) = some (some (.agg zeroG.toArray), 259, 272) := by kernel_rfl
theorem sig_step {p : List UInt8} {i j : Nat} {c : UInt8} {g : Sg} {L : List Sg} {R : Option (List Sg)} (hc : p[i]? = some c) (hn : nextF p i c = some (g, j)) (h : R = (signsF p p.length i).map (L ++ ·)) : R = (signsF p p.length j).map ((L ++ [g]) ++ ·) := by
  rw [h, signsF_step hc (by omega), hn]
  simp only [Option.map_map]
  congr 1
  funext M
  simp
theorem sig_fail {p : List UInt8} {i : Nat} {c : UInt8} {L : List Sg} {R : Option (List Sg)} (hc : p[i]? = some c) (hn : nextF p i c = none) (h : R = (signsF p p.length i).map (L ++ ·)) : R = none := by
  rw [h, signsF_step hc (by omega), hn]; rfl
theorem sig_end {p : List UInt8} {i : Nat} {L : List Sg} {R : Option (List Sg)} (hi : p.length ≤ i) (h : R = (signsF p p.length i).map (L ++ ·)) : R = some L := by
  rw [h, signsF_end hi]; simp
theorem u8_eq {c : UInt8} {n : Nat} (h : c.toNat = n) : c = UInt8.ofNat n := UInt8.toNat_inj.1 (by rw [h, UInt8.toNat_ofNat']; have := UInt8.toNat_lt c; omega)
theorem next63 {p : List UInt8} {i : Nat} {c : UInt8} (h : c.toNat = 63) : nextF p i c = some (⟨3, 0, false, noSet⟩, i + 1) := by
  obtain rfl := u8_eq h
  unfold nextF
  rw [if_neg (by decide), if_pos (by decide)]
theorem next92 {p : List UInt8} {i : Nat} {c d : UInt8} (h : c.toNat = 92) (hd : p[i + 1]? = some d) : nextF p i c = some (lit d, i + 2) := by
  obtain rfl := u8_eq h
  unfold nextF
  rw [if_neg (by decide), if_neg (by decide), if_neg (by decide), if_pos (by decide), hd]; rfl
theorem next92_none {p : List UInt8} {i : Nat} {c : UInt8} (h : c.toNat = 92) (hd : p[i + 1]? = none) : nextF p i c = none := by
  obtain rfl := u8_eq h
  unfold nextF
  rw [if_neg (by decide), if_neg (by decide), if_neg (by decide), if_pos (by decide), hd]; rfl
theorem next91 {p : List UInt8} {i : Nat} {c : UInt8} (h : c.toNat = 91) : nextF p i c = classF p (i + 1) := by
  obtain rfl := u8_eq h
  unfold nextF
  rw [if_neg (by decide), if_neg (by decide), if_pos (by decide)]
theorem next42 {p : List UInt8} {i j : Nat} {c : UInt8} (h : c.toNat = 42) (hj : starF p p.length (i + 1) = j) : nextF p i c = some (⟨if i + 1 < j then 1 else 2, 0, false, noSet⟩, j) := by
  obtain rfl := u8_eq h
  unfold nextF
  rw [if_pos (by decide), hj]
theorem nextLit {p : List UInt8} {i : Nat} {c : UInt8} (h1 : c.toNat ≠ 42) (h2 : c.toNat ≠ 63) (h3 : c.toNat ≠ 91) (h4 : c.toNat ≠ 92) : nextF p i c = some (lit c, i + 1) := by
  unfold nextF
  rw [if_neg (fun e => h1 (by rw [e]; rfl)), if_neg (fun e => h2 (by rw [e]; rfl)), if_neg (fun e => h3 (by rw [e]; rfl)), if_neg (fun e => h4 (by rw [e]; rfl))]
theorem set_snoc {L : List Sg} {g : Sg} (h : ∀ x ∈ L, x.set.length = 256) (hg : g.set.length = 256) : ∀ x ∈ L ++ [g], x.set.length = 256 := by
  intro x hx
  rcases List.mem_append.1 hx with h' | h'
  · exact h x h'
  · rw [List.mem_singleton.1 h']; exact hg
theorem infoG2 : (Try.prog.info? 90).map (fun i => (i.zero.isSome, i.size)) = some (true, 259) := by kernel_rfl
/-- What is told of a pattern. -/
def TellS (p : List UInt8) (w' : World) (e : Ending) : Prop :=
  (p.length ≤ 100 ∧ ∃ (L : List Sg) (A : Option Addr) (c : Nat), e = .returned (.tuple #[.slice A L.length c, .bool true]) ∧ patF p = some L ∧ L.length ≤ 100 ∧ (∀ g ∈ L, g.set.length = 256) ∧ (∀ a, A = some a → a.block < w'.heap.size) ∧ Sl 259 w' A L.length (encSs L)) ∨
  ((100 < p.length ∨ patF p = none) ∧ e = .returned (.tuple #[.slice none 0 0, .bool false]))
/-- One sign more. -/
theorem sg_step {w0 w : World} {base : Nat} {v : Value} {L : List Sg} (hown : w.ownsRow base 90 259 v L.length (encSs L)) (hb : Below base w0 w) (g : Sg) (hg : g.set.length = 256) (hn : L.length ≤ 1000) (hbase : base ≤ w.heap.size) :
    ∃ v' w', (Builtin.append_ #[83, 83] 83 #[v, .slice (some ⟨w.heap.size, 0, none⟩) 1 1]).run Try.prog (w.alloc (.cells (encK g.k g.c g.nt g.set).toArray 90)) = .ok v' w' ∧ w'.ownsRow base 90 259 v' (L ++ [g]).length (encSs (L ++ [g])) ∧ Below base w0 w' := by
  obtain ⟨i0, hi, hz0, hz1, hz2⟩ := info_parts infoG
  obtain ⟨v', w', h1, h2, _, h4⟩ := run_append_one (P := Try.prog) (w0 := w0) base 83 83 90 i0 _ 259 272 Try.underlying83 hi hz0 hz1 hz2 zeroG_len (by decide) hown hb (encK g.k g.c g.nt g.set) (encK_len hg) (encK_mem _ _ _ _) 1 (by omega) (by omega) hbase
  exact ⟨v', w', h1, by rw [encSs_snoc, List.length_append]; exact h2, h4⟩
set_option maxRecDepth 100000 in
set_option maxHeartbeats 20000000 in
theorem signs_any (s : ByteArray) (w : World) (hs : s.size ≤ 140737488355328) :
    Calls Try.prog 69 #[.string s] w fun e w' => TellS s.data.toList w' e ∧ Below w.heap.size w w' := by
  have HSZ := Lib.hid (show s.data.toList.length = s.size by rw [Array.length_toList]; rfl)
  go_enter Try.func69, Try.ntmps69
  rcases Nat.lt_or_ge 100 s.size with h100 | h100
  · go_wp2_with fail
    go_ret2
    exact ⟨.inr ⟨.inl (by rw [HSZ.out]; exact h100), rfl⟩, Below.refl _ _⟩
  have h100i : ¬ (100 : Int) < s.size := by omega
  go_wp2_with fail
  go_loopw [4, 5] (fun v a wr => ∃ (i : Nat) (L : List Sg), a = .int .i64 i ∧ i ≤ s.size ∧ L.length ≤ i ∧ (∀ g ∈ L, g.set.length = 256) ∧ patF s.data.toList = (signsF s.data.toList s.data.toList.length i).map (L ++ ·) ∧ wr.ownsRow w.heap.size 90 259 v L.length (encSs L) ∧ Below w.heap.size w wr) (fun _ a _ => s.size - (intOf a).toNat)
  case atStart => exact ⟨0, [], rfl, by omega, by simp, by simp, by unfold patF; simp, World.ownsRow_nil _ _ _ _, Below.refl _ _⟩
  case round =>
    obtain ⟨i, L, rfl, hi, hL, hset, hpat, hown, hb⟩ := hrel
    have HSET := Lib.hid hset
    have HPAT := Lib.hid hpat
    rcases Nat.lt_or_ge i s.size with h | h
    · obtain ⟨c, hc0⟩ : ∃ c, s[i]'h = c := ⟨_, rfl⟩
      have HC := Lib.hid (show s.data.toList[i]? = some c by rw [data_at s i h, hc0])
      have hcb : c.toNat < 256 := UInt8.toNat_lt c
      by_cases q42 : c.toNat = 42
      · have e2 : ((c.toNat : Int) == 42) = true := by simp [q42]
        have HOW := Lib.hid hown
        have HB := Lib.hid hb
        have Q42 := Lib.hid q42
        clear q42 hown hb hset hpat
        go_wp2_with fail
        go_loopw [5] (fun a wq => ∃ j : Nat, a = .int .i64 j ∧ i ≤ j ∧ j < s.size ∧ starF s.data.toList s.data.toList.length (j + 1) = starF s.data.toList s.data.toList.length (i + 1) ∧ wq = wr) (fun a _ => s.size - (intOf a).toNat)
        case atStart => exact ⟨i, rfl, Nat.le_refl _, h, rfl, rfl⟩
        case round =>
          obtain ⟨j, rfl, hj1, hj2, hst, rfl⟩ := hrel
          have HST := Lib.hid hst
          clear hst
          have e3 : ((j : Int) + 1).toNat = j + 1 := by omega
          by_cases g1 : j + 1 < s.size ∧ s.data.toList[j + 1]? = some 42
          · obtain ⟨g1, g2⟩ := g1
            have e4 : (((s[j + 1]'g1).toNat : Int) == 42) = true := by
              rw [data_at s (j + 1) g1] at g2
              rw [Option.some.inj g2]; rfl
            have K := Lib.hid (starF_step (f := s.data.toList.length) g2 (by omega))
            clear g2
            go_wp2_with fail
            go_roundw
            case rel => exact ⟨j + 1, by go_num, by omega, by omega, by rw [← HST.out, K.out], by trivial⟩
            case measure => simp [intOf]; omega
          · have KE : Hid (starF s.data.toList s.data.toList.length (i + 1) = j + 1) := Lib.hid (by
              rw [← HST.out]
              refine starF_end fun e => g1 ⟨?_, e⟩
              have := (List.getElem?_eq_some_iff.1 e).1
              rw [HSZ.out] at this; exact this)
            have HG1 := Lib.hid g1
            clear g1
            have body : ∀ (k0 : Nat), (if i + 1 < j + 1 then 1 else 2) = k0 → ∃ v5 w5, (Builtin.append_ #[83, 83] 83 #[u4, .slice (some ⟨wr.heap.size, 0, none⟩) 1 1]).run Try.prog (wr.alloc (.cells (encK k0 0 false noSet).toArray 90)) = .ok v5 w5 ∧ w5.ownsRow w.heap.size 90 259 v5 (L ++ [(⟨k0, 0, false, noSet⟩ : Sg)]).length (encSs (L ++ [(⟨k0, 0, false, noSet⟩ : Sg)])) ∧ Below w.heap.size w w5 ∧ patF s.data.toList = (signsF s.data.toList s.data.toList.length (j + 1)).map ((L ++ [(⟨k0, 0, false, noSet⟩ : Sg)]) ++ ·) := by
              rintro k0 rfl
              obtain ⟨v5, w5, hap, hown5, hb5⟩ := sg_step HOW.out HB.out (⟨if i + 1 < j + 1 then 1 else 2, 0, false, noSet⟩ : Sg) noSet_len (by omega) HB.out.size
              exact ⟨v5, w5, hap, hown5, hb5, sig_step HC.out (next42 Q42.out KE.out) HPAT.out⟩
            by_cases g5 : i < j
            · obtain ⟨v5, w5, hap, hown5, hb5, hk⟩ := body 1 (if_pos (by omega))
              have hbd := fun w => build_sg_k w 1
              have HZ5 := Lib.hid (encK_len (k := 1) (c := 0) (nt := false) noSet_len)
              have R5 := Lib.hid (And.intro hown5 (And.intro hb5 hk))
              clear hown5 hb5 hk body
              rcases Nat.lt_or_ge (j + 1) s.size with g1 | g1
              · have e4 : (((s[j + 1]'g1).toNat : Int) == 42) = false := by
                  have : (s[j + 1]'g1).toNat ≠ 42 := fun e => HG1.out ⟨g1, by rw [data_at s (j + 1) g1]; exact congrArg some (UInt8.toNat_inj.1 (by rw [e]; rfl))⟩
                  simp; omega
                go_wp2_with (first | (refine wpList_val rfl (run_build_op rfl (by simp; rfl) (hbd _)) ?_) | (refine wpList_slice1 rfl 83 90 (.tmp 50) rfl _ rfl 259 Try.underlying83 infoG2 HZ5.out (by omega) (by omega) ?_) | (at_builtin; refine halt_in ?_))
                refine Halted.out (wpList_append_run rfl _ _ _ _ rfl rfl rfl hap ?_)
                clear hap
                go_wp2_with fail
                go_roundw
                case rel => exact ⟨j + 1, _, by go_num, by omega, by rw [List.length_append]; simp only [List.length_cons, List.length_nil]; omega, set_snoc HSET.out noSet_len, R5.out.2.2, R5.out.1, R5.out.2.1⟩
                case measure => simp [intOf]; omega
              · have g6 : ¬ (j : Int) + 1 < s.size := by omega
                go_wp2_with (first | (refine wpList_val rfl (run_build_op rfl (by simp; rfl) (hbd _)) ?_) | (refine wpList_slice1 rfl 83 90 (.tmp 50) rfl _ rfl 259 Try.underlying83 infoG2 HZ5.out (by omega) (by omega) ?_) | (at_builtin; refine halt_in ?_))
                refine Halted.out (wpList_append_run rfl _ _ _ _ rfl rfl rfl hap ?_)
                clear hap
                go_wp2_with fail
                go_roundw
                case rel => exact ⟨j + 1, _, by go_num, by omega, by rw [List.length_append]; simp only [List.length_cons, List.length_nil]; omega, set_snoc HSET.out noSet_len, R5.out.2.2, R5.out.1, R5.out.2.1⟩
                case measure => simp [intOf]; omega
            · obtain ⟨v5, w5, hap, hown5, hb5, hk⟩ := body 2 (if_neg (by omega))
              have hbd := fun w => build_sg_k w 2
              have HZ5 := Lib.hid (encK_len (k := 2) (c := 0) (nt := false) noSet_len)
              have R5 := Lib.hid (And.intro hown5 (And.intro hb5 hk))
              clear hown5 hb5 hk body
              rcases Nat.lt_or_ge (j + 1) s.size with g1 | g1
              · have e4 : (((s[j + 1]'g1).toNat : Int) == 42) = false := by
                  have : (s[j + 1]'g1).toNat ≠ 42 := fun e => HG1.out ⟨g1, by rw [data_at s (j + 1) g1]; exact congrArg some (UInt8.toNat_inj.1 (by rw [e]; rfl))⟩
                  simp; omega
                go_wp2_with (first | (refine wpList_val rfl (run_build_op rfl (by simp; rfl) (hbd _)) ?_) | (refine wpList_slice1 rfl 83 90 (.tmp 54) rfl _ rfl 259 Try.underlying83 infoG2 HZ5.out (by omega) (by omega) ?_) | (at_builtin; refine halt_in ?_))
                refine Halted.out (wpList_append_run rfl _ _ _ _ rfl rfl rfl hap ?_)
                clear hap
                go_wp2_with fail
                go_roundw
                case rel => exact ⟨j + 1, _, by go_num, by omega, by rw [List.length_append]; simp only [List.length_cons, List.length_nil]; omega, set_snoc HSET.out noSet_len, R5.out.2.2, R5.out.1, R5.out.2.1⟩
                case measure => simp [intOf]; omega
              · have g6 : ¬ (j : Int) + 1 < s.size := by omega
                go_wp2_with (first | (refine wpList_val rfl (run_build_op rfl (by simp; rfl) (hbd _)) ?_) | (refine wpList_slice1 rfl 83 90 (.tmp 54) rfl _ rfl 259 Try.underlying83 infoG2 HZ5.out (by omega) (by omega) ?_) | (at_builtin; refine halt_in ?_))
                refine Halted.out (wpList_append_run rfl _ _ _ _ rfl rfl rfl hap ?_)
                clear hap
                go_wp2_with fail
                go_roundw
                case rel => exact ⟨j + 1, _, by go_num, by omega, by rw [List.length_append]; simp only [List.length_cons, List.length_nil]; omega, set_snoc HSET.out noSet_len, R5.out.2.2, R5.out.1, R5.out.2.1⟩
                case measure => simp [intOf]; omega
      have e42 : ((c.toNat : Int) == 42) = false := by simp; omega
      by_cases q63 : c.toNat = 63
      · have e2 : ((c.toNat : Int) == 63) = true := by simp [q63]
        have hbd := fun w => build_sg_k w 3
        have K := Lib.hid (sig_step HC.out (next63 q63) HPAT.out)
        obtain ⟨v5, w5, hap, hown5, hb5⟩ := sg_step hown hb ⟨3, 0, false, noSet⟩ noSet_len (by omega) hb.size
        have hz5 := encK_len (k := ((⟨3, 0, false, noSet⟩ : Sg).k : Int)) (c := (⟨3, 0, false, noSet⟩ : Sg).c) (nt := (⟨3, 0, false, noSet⟩ : Sg).nt) (set := (⟨3, 0, false, noSet⟩ : Sg).set) noSet_len
        have R5 := Lib.hid (And.intro hown5 hb5)
        simp only [lit] at hap hz5
        have HZ5 := Lib.hid hz5
        clear hown5 hb5 hz5 hown hb hset hpat
        clear q42 q63
        go_wp2_with (first | (refine wpList_val rfl (run_build_op rfl (by simp; rfl) (hbd _)) ?_) | (refine wpList_slice1 rfl 83 90 (.tmp 60) rfl _ rfl 259 Try.underlying83 infoG2 HZ5.out (by omega) (by omega) ?_) | (at_builtin; refine halt_in ?_))
        refine Halted.out (wpList_append_run rfl _ _ _ _ rfl rfl rfl hap ?_)
        clear hap
        go_wp2_with fail
        go_roundw
        case rel => exact ⟨i + 1, _, by go_num, by omega, by rw [List.length_append]; simp only [List.length_cons, List.length_nil]; omega, set_snoc HSET.out noSet_len, K.out, R5.out.1, R5.out.2⟩
        case measure => simp [intOf]; omega
      have e63 : ((c.toNat : Int) == 63) = false := by simp; omega
      by_cases q91 : c.toNat = 91
      · have e2 : ((c.toNat : Int) == 91) = true := by simp [q91]
        have hCA : ∀ w, Calls Try.prog 77 #[.string s, .int .i64 ((i : Int) + 1)] w fun e w' => TellC s.data.toList (i + 1) e ∧ Below w.heap.size w w' := fun w => by
          have := class_any s (i + 1) w hs (by omega)
          rwa [show ((i + 1 : Nat) : Int) = (i : Int) + 1 by omega] at this
        have HCA := Lib.hid hCA
        have K91 := Lib.hid (next91 (p := s.data.toList) (i := i) q91)
        have HOW := Lib.hid hown
        have HB := Lib.hid hb
        have hzv := zero_sg
        have hzl := zeroG_len
        generalize zeroG = Z at *
        have HZL := Lib.hid hzl
        clear hCA q42 q63 q91 hown hb hset hpat hzl
        go_wp2_with fail
        refine (HCA.out _).mono ?_
        rintro e w1 ⟨hTC, hb1⟩
        obtain ⟨nt, st, j, b, rfl, hst, ht, hf⟩ := hTC
        have n1 := Blk.new w1 90 Z
        have hbW : Below w1.heap.size w1 ((w1.alloc (.cells Z.toArray 90)).setRow w1.heap.size (encK 4 0 nt st).toArray) := below_setRow ((Below.refl _ _).alloc (Nat.le_refl _) _) (Nat.le_refl _) _
        have own2 := own_below (own_below HOW.out hb1) hbW
        have blk2 := n1.setRow (encK 4 0 nt st)
        have hb2 := HB.out.trans ((hb1.trans (hbW.mono hb1.size)).mono HB.out.size)
        have HSZ4 := Lib.hid (size_sg (k := 4) (c := 0) (nt := nt) hst)
        have N1 := Lib.hid n1
        have HHF := Lib.hid hf
        cases b with
        | false =>
          have KN := Lib.hid (sig_fail HC.out (by rw [K91.out]; exact HHF.out rfl) HPAT.out)
          have HB2 := Lib.hid hb2
          clear ht hf hb1 n1 hbW own2 blk2 hb2
          go_wp2_with (refine wpList_store_row rfl 90 (.tmp 7) (.tmp 70) rfl w1.heap.size _ _ _ rfl rfl N1.out HSZ4.out (HZL.out.trans (encK_len hst).symm) (encK_one _ _ _ _) ?_)
          go_ret2
          exact ⟨.inr ⟨.inr KN.out, rfl⟩, HB2.out⟩
        | true =>
          obtain ⟨n, rfl, hcl⟩ := ht rfl
          have hle := classF_le hcl (by rw [HSZ.out]; omega)
          rw [HSZ.out] at hle
          obtain ⟨hn1, hn2, _, _, _⟩ := hle
          have K := Lib.hid (sig_step HC.out (by rw [K91.out]; exact hcl) HPAT.out)
          obtain ⟨v5, w5, hap, hown5, hb5⟩ := sg_step own2 hb2 ⟨4, 0, nt, st⟩ hst (by omega) hb2.size
          have hsize : ((w1.alloc (.cells Z.toArray 90)).setRow w1.heap.size (encK 4 0 nt st).toArray).heap.size = w1.heap.size + 1 := by simp
          rw [hsize] at hap
          simp only [show ((4 : Nat) : Int) = 4 from rfl] at hap
          clear hsize
          have R5 := Lib.hid (And.intro hown5 hb5)
          have HZ5 := Lib.hid (encK_len (k := 4) (c := 0) (nt := nt) hst)
          have HBK := Lib.hid blk2
          clear ht hf hb1 n1 hbW own2 blk2 hb2 hown5 hb5 hcl HHF
          go_wp2_with (first | (refine wpList_store_row rfl 90 (.tmp 7) (.tmp 70) rfl w1.heap.size _ _ _ rfl rfl N1.out HSZ4.out (HZL.out.trans (encK_len hst).symm) (encK_one _ _ _ _) ?_) | (refine wpList_load_row rfl 90 (.tmp 7) rfl w1.heap.size rfl _ _ _ _ HBK.out Try.underlying90 rfl HSZ4.out ?_) | (refine wpList_slice1 rfl 83 90 (.tmp 76) rfl _ rfl 259 Try.underlying83 infoG2 HZ5.out (by omega) (by omega) ?_) | (at_builtin; refine halt_in ?_))
          refine Halted.out (wpList_append_run rfl _ _ _ _ rfl rfl rfl hap ?_)
          clear hap
          go_wp2_with fail
          go_roundw
          case rel => exact ⟨n, _, by go_num, by omega, by rw [List.length_append]; simp only [List.length_cons, List.length_nil]; omega, set_snoc HSET.out hst, K.out, R5.out.1, R5.out.2⟩
          case measure => simp [intOf]; omega
      have e91 : ((c.toNat : Int) == 91) = false := by simp; omega
      by_cases q92 : c.toNat = 92
      · have e92 : ((c.toNat : Int) == 92) = true := by simp [q92]
        rcases Nat.lt_or_ge (i + 1) s.size with h1 | h1
        · obtain ⟨d, hd0⟩ : ∃ d, s[i + 1]'h1 = d := ⟨_, rfl⟩
          have hn2 : ((i : Int) + 1 == (s.size : Int)) = false := by simp; omega
          have e3 : ((i : Int) + 1).toNat = i + 1 := by omega
          have hbd := fun w => build_sg_c w d
          have K := Lib.hid (sig_step HC.out (next92 q92 (show s.data.toList[i + 1]? = some d by rw [data_at s (i + 1) h1, hd0])) HPAT.out)
          obtain ⟨v5, w5, hap, hown5, hb5⟩ := sg_step hown hb (lit d) noSet_len (by omega) hb.size
          have hz5 := encK_len (k := (((lit d) : Sg).k : Int)) (c := ((lit d) : Sg).c) (nt := ((lit d) : Sg).nt) (set := ((lit d) : Sg).set) noSet_len
          have R5 := Lib.hid (And.intro hown5 hb5)
          simp only [lit] at hap hz5
          have HZ5 := Lib.hid hz5
          clear hown5 hb5 hz5 hown hb hset hpat
          clear q42 q63 q91 q92
          go_wp2_with (first | (refine wpList_val rfl (run_build_op rfl (by simp; rfl) (hbd _)) ?_) | (refine wpList_slice1 rfl 83 90 (.tmp 93) rfl _ rfl 259 Try.underlying83 infoG2 HZ5.out (by omega) (by omega) ?_) | (at_builtin; refine halt_in ?_))
          refine Halted.out (wpList_append_run rfl _ _ _ _ rfl rfl rfl hap ?_)
          clear hap
          go_wp2_with fail
          go_roundw
          case rel => exact ⟨i + 2, _, by go_num, by omega, by rw [List.length_append]; simp only [List.length_cons, List.length_nil]; omega, set_snoc HSET.out noSet_len, K.out, R5.out.1, R5.out.2⟩
          case measure => simp [intOf]; omega
        · have KN := Lib.hid (sig_fail HC.out (next92_none q92 (show s.data.toList[i + 1]? = none by rw [at_data, dif_neg (by omega)])) HPAT.out)
          have hn2 : ((i : Int) + 1 == (s.size : Int)) = true := by simp; omega
          have HB := Lib.hid hb
          clear q42 q63 q91 q92 hown hb hset hpat
          go_wp2_with fail
          go_ret2
          exact ⟨.inr ⟨.inr KN.out, rfl⟩, HB.out⟩
      have e92 : ((c.toNat : Int) == 92) = false := by simp; omega
      have hbd := fun w => build_sg_c w c
      have K := Lib.hid (sig_step HC.out (nextLit q42 q63 q91 q92) HPAT.out)
      obtain ⟨v5, w5, hap, hown5, hb5⟩ := sg_step hown hb (lit c) noSet_len (by omega) hb.size
      have hz5 := encK_len (k := (((lit c) : Sg).k : Int)) (c := ((lit c) : Sg).c) (nt := ((lit c) : Sg).nt) (set := ((lit c) : Sg).set) noSet_len
      have R5 := Lib.hid (And.intro hown5 hb5)
      simp only [lit] at hap hz5
      have HZ5 := Lib.hid hz5
      clear hown5 hb5 hz5 hown hb hset hpat
      clear q42 q63 q91 q92
      go_wp2_with (first | (refine wpList_val rfl (run_build_op rfl (by simp; rfl) (hbd _)) ?_) | (refine wpList_slice1 rfl 83 90 (.tmp 26) rfl _ rfl 259 Try.underlying83 infoG2 HZ5.out (by omega) (by omega) ?_) | (at_builtin; refine halt_in ?_))
      refine Halted.out (wpList_append_run rfl _ _ _ _ rfl rfl rfl hap ?_)
      clear hap
      go_wp2_with fail
      go_roundw
      case rel => exact ⟨i + 1, _, by go_num, by omega, by rw [List.length_append]; simp only [List.length_cons, List.length_nil]; omega, set_snoc HSET.out noSet_len, K.out, R5.out.1, R5.out.2⟩
      case measure => simp [intOf]; omega
    · have KE := Lib.hid (sig_end (by rw [HSZ.out]; omega) HPAT.out)
      have hown0 := hown
      obtain ⟨Af, cf, rfl, hcf, hslf, hbf, _⟩ := own_sl hown
      have R := Lib.hid (And.intro (And.intro (fun a ha => (hown0.lt _ (hbf a ha).2).2) hslf) hb)
      clear hown0 hbf
      clear hown hb hset hpat hslf
      go_wp2_with fail
      go_ret2
      exact ⟨.inl ⟨by rw [HSZ.out]; exact h100, L, Af, cf, rfl, KE.out, by omega, HSET.out, R.out.1.1, R.out.1.2⟩, R.out.2⟩
end Go.Proofs.Ytcagonpnjionhaa

/-! Which texts a pattern matches: the table, and the program's way through it: plain. -/
set_option linter.unusedVariables false
set_option linter.unusedSimpArgs false
namespace Go.Proofs.Ytcagonpnjionhaa

def starG (g : Sg) : Bool := g.k == 1 || g.k == 2
def takesF (g : Sg) (c : UInt8) : Bool :=
  if g.k = 0 then c == g.c else if g.k = 1 then true else if g.k = 4 then c != 47 && (g.set[c.toNat]?.getD false != g.nt) else c != 47
def sgAt (L : List Sg) (k : Nat) : Sg := L[k]?.getD ⟨0, 0, false, []⟩
/-- Do the first k signs match the first i bytes? -/
def tab (L : List Sg) (s : List UInt8) : Nat → Nat → Bool
  | 0, 0 => true
  | 0, _+1 => false
  | k+1, 0 => starG (sgAt L k) && tab L s k 0
  | k+1, i+1 => if starG (sgAt L k) then tab L s k (i+1) || (tab L s (k+1) i && takesF (sgAt L k) (s[i]?.getD 0)) else tab L s k i && takesF (sgAt L k) (s[i]?.getD 0)
def matchF (L : List Sg) (s : List UInt8) : Bool := tab L s L.length s.length
/-- What the program holds of the first k signs behind the first i bytes. -/
def prog (L : List Sg) (s : List UInt8) (k i : Nat) : Bool := if k < L.length ∧ starG (sgAt L k) = true then tab L s (k+1) i else tab L s k i
/-- Signs that may match no bytes are passed over, up to the first k. -/
def closeF (L : List Sg) : Nat → List Bool → List Bool
  | 0, b => b
  | k+1, b => if (closeF L k b)[k]?.getD false && starG (sgAt L k) then (closeF L k b).set (k+1) true else closeF L k b
theorem closeF_len (L : List Sg) (k : Nat) (b : List Bool) : (closeF L k b).length = b.length := by
  induction k with
  | zero => rfl
  | succ k ih => rw [closeF]; split <;> simp [ih]
/-- What closing has made of a place. -/
theorem closeF_at (L : List Sg) (b : List Bool) : ∀ (K : Nat) (m : Nat), m < b.length → (closeF L K b)[m]?.getD false = (b[m]?.getD false || (decide (0 < m ∧ m ≤ K) && (starG (sgAt L (m-1)) && (closeF L K b)[m-1]?.getD false)))
  | 0, m, hm => by rw [decide_eq_false (by omega)]; simp [closeF]
  | K+1, m, hm => by
    have hl := closeF_len L K b
    have ih := closeF_at L b K
    rw [closeF]
    by_cases hs : ((closeF L K b)[K]?.getD false && starG (sgAt L K)) = true
    · rw [if_pos hs]
      by_cases h1 : m = K + 1
      · subst h1
        rw [List.getElem?_set_self (by omega), decide_eq_true (by omega), List.getElem?_set_ne (by omega)]
        simp only [Nat.add_sub_cancel, Option.getD_some, Bool.true_and]
        simp only [Bool.and_eq_true] at hs
        rw [hs.1, hs.2]; simp
      · rw [List.getElem?_set_ne (by omega), ih m hm]
        by_cases h2 : 0 < m ∧ m ≤ K
        · rw [decide_eq_true h2, decide_eq_true (by omega), List.getElem?_set_ne (by omega)]
        · rw [decide_eq_false h2, decide_eq_false (by omega)]; simp
    · rw [if_neg hs, ih m hm]
      by_cases h1 : m = K + 1
      · subst h1
        rw [decide_eq_false (by omega), decide_eq_true (by omega)]
        simp only [Nat.add_sub_cancel]
        have : (starG (sgAt L K) && (closeF L K b)[K]?.getD false) = false := by
          rw [Bool.and_comm]; simpa using hs
        rw [this]; simp
      · by_cases h2 : 0 < m ∧ m ≤ K
        · rw [decide_eq_true h2, decide_eq_true (by omega)]
        · rw [decide_eq_false h2, decide_eq_false (by omega)]
/-- The row of the program's states. -/
def row (L : List Sg) (s : List UInt8) (i : Nat) : List Bool := (List.range (L.length + 1)).map fun k => prog L s k i
theorem row_len (L : List Sg) (s : List UInt8) (i : Nat) : (row L s i).length = L.length + 1 := by simp [row]
theorem row_at {L : List Sg} {s : List UInt8} {i k : Nat} (h : k ≤ L.length) : (row L s i)[k]?.getD false = prog L s k i := by
  unfold row; rw [List.getElem?_map, List.getElem?_range (by omega)]; rfl
/-- One byte's steps, before closing, by the first K signs. -/
def stepF (L : List Sg) (c : UInt8) (r : List Bool) : Nat → List Bool
  | 0 => List.replicate (L.length + 1) false
  | k+1 => if r[k]?.getD false && takesF (sgAt L k) c then (if starG (sgAt L k) then (stepF L c r k).set k true else (stepF L c r k).set (k+1) true) else stepF L c r k
theorem stepF_len (L : List Sg) (c : UInt8) (r : List Bool) (k : Nat) : (stepF L c r k).length = L.length + 1 := by
  induction k with
  | zero => simp [stepF]
  | succ k ih => rw [stepF]; split; split <;> simp [ih]; exact ih
theorem stepF_at (L : List Sg) (c : UInt8) (r : List Bool) : ∀ (K : Nat), K ≤ L.length → ∀ m, m ≤ L.length → (stepF L c r K)[m]?.getD false =
    ((decide (m < K) && (starG (sgAt L m) && (r[m]?.getD false && takesF (sgAt L m) c))) || (decide (0 < m ∧ m ≤ K) && (!starG (sgAt L (m-1)) && (r[m-1]?.getD false && takesF (sgAt L (m-1)) c))))
  | 0, _, m, hm => by
    rw [decide_eq_false (by omega), decide_eq_false (by omega)]
    unfold stepF
    rw [List.getElem?_replicate, if_pos (by omega)]; rfl
  | K+1, hK, m, hm => by
    have ih := stepF_at L c r K (by omega) m hm
    have hl := stepF_len L c r K
    rw [stepF]
    by_cases h : (r[K]?.getD false && takesF (sgAt L K) c) = true
    · rw [if_pos h]
      by_cases hs : starG (sgAt L K) = true
      · rw [if_pos hs]
        by_cases h1 : m = K
        · subst h1
          rw [List.getElem?_set_self (by omega), decide_eq_true (show m < m + 1 by omega), h, hs]; simp
        · rw [List.getElem?_set_ne (by omega), ih]
          by_cases h2 : m = K + 1
          · subst h2
            rw [decide_eq_false (show ¬ K + 1 < K by omega), decide_eq_false (show ¬ K + 1 < K + 1 by omega), decide_eq_false (show ¬ (0 < K + 1 ∧ K + 1 ≤ K) by omega)]
            simp only [Nat.add_sub_cancel, hs]; simp
          · congr 1
            · congr 1; exact decide_eq_decide.2 (by omega)
            · congr 1; exact decide_eq_decide.2 (by omega)
      · rw [if_neg hs]
        by_cases h1 : m = K + 1
        · subst h1
          rw [List.getElem?_set_self (by omega), decide_eq_true (show 0 < K + 1 ∧ K + 1 ≤ K + 1 by omega)]
          simp only [Nat.add_sub_cancel, h]
          simp [hs]
        · rw [List.getElem?_set_ne (by omega), ih]
          by_cases h2 : m = K
          · subst h2
            rw [decide_eq_false (show ¬ m < m by omega), decide_eq_true (show m < m + 1 by omega)]
            have : starG (sgAt L m) = false := by simpa using hs
            rw [this]
            simp only [Bool.false_and, Bool.and_false, Bool.false_or]
            congr 1; exact decide_eq_decide.2 (by omega)
          · congr 1
            · congr 1; exact decide_eq_decide.2 (by omega)
            · congr 1; exact decide_eq_decide.2 (by omega)
    · rw [if_neg h, ih]
      have h' : (r[K]?.getD false && takesF (sgAt L K) c) = false := by simpa using h
      by_cases h1 : m = K
      · subst h1
        rw [h']
        simp only [Bool.and_false, Bool.false_or]
        congr 1; exact decide_eq_decide.2 (by omega)
      · by_cases h2 : m = K + 1
        · subst h2
          simp only [Nat.add_sub_cancel, h', Bool.and_false, Bool.or_false]
          congr 1; exact decide_eq_decide.2 (by omega)
        · congr 1
          · congr 1; exact decide_eq_decide.2 (by omega)
          · congr 1; exact decide_eq_decide.2 (by omega)
theorem bools_ext {a b : List Bool} {n : Nat} (ha : a.length = n) (hb : b.length = n) (h : ∀ m, m < n → a[m]?.getD false = b[m]?.getD false) : a = b := by
  refine List.ext_getElem? fun m => ?_
  rcases Nat.lt_or_ge m n with hm | hm
  · have := h m hm
    rw [List.getElem?_eq_getElem (by omega), List.getElem?_eq_getElem (by omega)] at this ⊢
    exact congrArg some this
  · rw [List.getElem?_eq_none (by omega), List.getElem?_eq_none (by omega)]
/-- The program's row behind the next byte. -/
theorem row_step (L : List Sg) (s : List UInt8) (i : Nat) : closeF L L.length (stepF L (s[i]?.getD 0) (row L s i) L.length) = row L s (i + 1) := by
  refine bools_ext (n := L.length + 1) (by rw [closeF_len, stepF_len]) (row_len _ _ _) ?_
  intro m
  induction m with
  | zero =>
    intro hm
    rw [closeF_at _ _ _ _ (by rw [stepF_len]; omega), decide_eq_false (by omega), row_at (by omega), stepF_at _ _ _ _ (Nat.le_refl _) _ (by omega), decide_eq_false (show ¬ (0 < 0 ∧ 0 ≤ L.length) by omega), row_at (by omega)]
    unfold prog
    by_cases h : 0 < L.length ∧ starG (sgAt L 0) = true
    · rw [if_pos h, if_pos h, decide_eq_true h.1, h.2]
      simp only [tab, h.2, if_true]; simp
    · rw [if_neg h, if_neg h]
      simp only [tab]
      by_cases h0 : 0 < L.length
      · have : starG (sgAt L 0) = false := by simpa using fun e => h ⟨h0, e⟩
        rw [this]; simp
      · rw [decide_eq_false h0]; simp
  | succ m ih =>
    intro hm
    have ih := ih (by omega)
    rw [row_at (by omega)] at ih
    rw [closeF_at _ _ _ _ (by rw [stepF_len]; omega), decide_eq_true (by omega), row_at (by omega), stepF_at _ _ _ _ (Nat.le_refl _) _ (by omega), decide_eq_true (show 0 < m + 1 ∧ m + 1 ≤ L.length by omega)]
    simp only [Nat.add_sub_cancel, Bool.true_and]
    rw [ih, row_at (show m ≤ L.length by omega), row_at (show m + 1 ≤ L.length by omega)]
    have base : tab L s (m + 1) (i + 1) = ((!starG (sgAt L m) && (prog L s m i && takesF (sgAt L m) (s[i]?.getD 0))) || (starG (sgAt L m) && prog L s m (i + 1))) := by
      by_cases hs : starG (sgAt L m) = true
      · rw [hs]
        simp only [Bool.not_true, Bool.false_and, Bool.false_or, Bool.true_and]
        unfold prog
        rw [if_pos ⟨by omega, hs⟩]
      · have hs' : starG (sgAt L m) = false := by simpa using hs
        rw [hs']
        simp only [Bool.not_false, Bool.true_and, Bool.false_and, Bool.or_false]
        unfold prog
        rw [if_neg (fun h => hs h.2)]
        rw [tab, if_neg hs]
    by_cases h : m + 1 < L.length ∧ starG (sgAt L (m + 1)) = true
    · rw [decide_eq_true h.1, h.2]
      have e1 : prog L s (m + 1) i = tab L s (m + 2) i := by unfold prog; rw [if_pos h]
      have e2 : prog L s (m + 1) (i + 1) = (tab L s (m + 1) (i + 1) || (tab L s (m + 2) i && takesF (sgAt L (m + 1)) (s[i]?.getD 0))) := by
        unfold prog; rw [if_pos h]
        conv => lhs; rw [tab]
        rw [if_pos h.2]
      rw [e1, e2, base]
      simp only [Bool.true_and]
      generalize tab L s (m + 2) i = x
      generalize takesF (sgAt L (m + 1)) (s[i]?.getD 0) = y
      generalize (!starG (sgAt L m) && (prog L s m i && takesF (sgAt L m) (s[i]?.getD 0))) = u
      generalize (starG (sgAt L m) && prog L s m (i + 1)) = v
      cases x <;> cases y <;> cases u <;> cases v <;> rfl
    · have e2 : prog L s (m + 1) (i + 1) = tab L s (m + 1) (i + 1) := by unfold prog; rw [if_neg h]
      have e3 : (decide (m + 1 < L.length) && (starG (sgAt L (m + 1)) && (prog L s (m + 1) i && takesF (sgAt L (m + 1)) (s[i]?.getD 0)))) = false := by
        by_cases h0 : m + 1 < L.length
        · have : starG (sgAt L (m + 1)) = false := by simpa using fun e => h ⟨h0, e⟩
          rw [this]; simp
        · rw [decide_eq_false h0]; simp
      rw [e2, base, e3]; simp
/-- The program's row ahead of the first byte. -/
theorem row_zero (L : List Sg) (s : List UInt8) : closeF L L.length (true :: List.replicate L.length false) = row L s 0 := by
  refine bools_ext (n := L.length + 1) (by rw [closeF_len]; simp) (row_len _ _ _) ?_
  have hp : ∀ k, prog L s k 0 = tab L s k 0 := by
    intro k; unfold prog; split
    · rename_i h; rw [tab, h.2]; simp
    · rfl
  intro m
  induction m with
  | zero =>
    intro hm
    rw [closeF_at _ _ _ _ (by simp), row_at (by omega), hp]; simp [tab]
  | succ m ih =>
    intro hm
    have ih := ih (by omega)
    rw [row_at (by omega), hp] at ih
    rw [closeF_at _ _ _ _ (by simp; omega), row_at (by omega), hp, decide_eq_true (by omega)]
    simp only [Nat.add_sub_cancel, ih, tab, List.getElem?_cons_succ, List.getElem?_replicate, Bool.true_and]
    split <;> simp
theorem row_last (L : List Sg) (s : List UInt8) : (row L s s.length)[L.length]?.getD false = matchF L s := by
  rw [row_at (Nat.le_refl _)]
  unfold prog matchF
  rw [if_neg (by omega)]
end Go.Proofs.Ytcagonpnjionhaa

/-! Does a sign take a byte? (the program) -/
set_option linter.unusedVariables false
set_option linter.unusedSimpArgs false
namespace Go.Proofs.Ytcagonpnjionhaa
open Go.RowKit

/-- A sign's cells stand somewhere. -/
def SgAt (w : World) (b o : Nat) (cs : List Value) : Prop := ∀ j v, cs[j]? = some v → w.cell? ⟨b, o + j, none⟩ = some v
set_option maxRecDepth 100000 in
set_option maxHeartbeats 2000000 in
theorem takes_any (b o : Nat) (g : Sg) (c : UInt8) (w : World) (hg : g.set.length = 256) (hs : SgAt w b o (encG g)) :
    Calls Try.prog 71 #[.pointer (some ⟨b, o, none⟩), .int .u8 c.toNat] w fun e w' => e = .returned (.bool (takesF g c)) ∧ ∃ k, w' = w.drewN k := by
  have c0 : w.cell? ⟨b, o, none⟩ = some (.int .i64 g.k) := hs 0 _ rfl
  have c1 : w.cell? ⟨b, o + 1, none⟩ = some (.int .u8 g.c.toNat) := hs 1 _ rfl
  have c2 : w.cell? ⟨b, o + 2, none⟩ = some (.bool g.nt) := hs 2 _ rfl
  have hcb : c.toNat < 256 := UInt8.toNat_lt c
  have c3 : w.cell? ⟨b, o + 3 + c.toNat, none⟩ = some (.bool (g.set[c.toNat]?.getD false)) := by
    have := hs (3 + c.toNat) _ (encK_at (by omega))
    rwa [show o + (3 + c.toNat) = o + 3 + c.toNat by omega] at this
  have hc6 : (c.toNat : Int) < 256 := by omega
  clear hs
  go_enter Try.func71, Try.ntmps71
  by_cases h0 : g.k = 0
  · have q0 : ((g.k : Int) == 0) = true := by simp [h0]
    by_cases hc : c = g.c
    · have K := Lib.hid (show takesF g c = true by unfold takesF; rw [if_pos h0, hc]; simp)
      have q1 : ((c.toNat : Int) == (g.c.toNat : Int)) = true := by rw [hc]; simp
      clear h0 hc
      go_wp2_with fail
      go_ret
      exact ⟨by rw [K.out]; rfl, 0, rfl⟩
    · have K := Lib.hid (show takesF g c = false by unfold takesF; rw [if_pos h0]; simpa using hc)
      have q1 : ((c.toNat : Int) == (g.c.toNat : Int)) = false := by
        have : c.toNat ≠ g.c.toNat := fun e => hc (UInt8.toNat_inj.1 e)
        simp; omega
      clear h0 hc
      go_wp2_with fail
      go_ret
      exact ⟨by rw [K.out]; rfl, 0, rfl⟩
  have q0 : ((g.k : Int) == 0) = false := by simp; omega
  by_cases h1 : g.k = 1
  · have q1 : ((g.k : Int) == 1) = true := by simp [h1]
    have K := Lib.hid (show takesF g c = true by unfold takesF; rw [if_neg h0, if_pos h1])
    clear h0 h1
    go_wp2_with fail
    go_ret
    exact ⟨by rw [K.out]; rfl, 0, rfl⟩
  have q1 : ((g.k : Int) == 1) = false := by simp; omega
  by_cases h4 : g.k = 4
  · have q4 : ((g.k : Int) == 4) = true := by simp [h4]
    have KF := Lib.hid (show takesF g c = (c != 47 && (g.set[c.toNat]?.getD false != g.nt)) by unfold takesF; rw [if_neg h0, if_neg h1, if_pos h4])
    generalize g.set[c.toNat]?.getD false = m at *
    by_cases hc : c = 47
    · have K := Lib.hid (show takesF g c = false by rw [KF.out, hc]; rfl)
      have q5 : ((c.toNat : Int) != 47) = false := by rw [hc]; rfl
      clear h0 h1 h4 hc
      go_wp2_with fail
      go_quiet (fail)
      go_wp2_with fail
      go_ret
      exact ⟨by rw [K.out]; rfl, _, rfl⟩
    · have hcc : (c != 47) = true := by simpa using hc
      have K := Lib.hid (show takesF g c = (m != g.nt) by rw [KF.out, hcc]; simp)
      clear hcc
      have q5 : ((c.toNat : Int) != 47) = true := by
        have : c.toNat ≠ 47 := fun e => hc (UInt8.toNat_inj.1 (by rw [e]; rfl))
        simp; omega
      clear h0 h1 h4 hc
      generalize g.nt = t at *
      cases m <;> cases t <;>
        (go_wp2_with fail
         go_quiet (fail)
         go_wp2_with fail
         go_ret
         exact ⟨by rw [K.out]; rfl, _, rfl⟩)
  have q4 : ((g.k : Int) == 4) = false := by simp; omega
  have KF := Lib.hid (show takesF g c = (c != 47) by unfold takesF; rw [if_neg h0, if_neg h1, if_neg h4])
  by_cases hc : c = 47
  · have K := Lib.hid (show takesF g c = false by rw [KF.out, hc]; rfl)
    have q5 : ((c.toNat : Int) != 47) = false := by rw [hc]; rfl
    clear h0 h1 h4 hc
    go_wp2_with fail
    go_ret
    exact ⟨by rw [K.out]; rfl, 0, rfl⟩
  · have K := Lib.hid (show takesF g c = true by rw [KF.out]; simpa using hc)
    have q5 : ((c.toNat : Int) != 47) = true := by
      have : c.toNat ≠ 47 := fun e => hc (UInt8.toNat_inj.1 (by rw [e]; rfl))
      simp; omega
    clear h0 h1 h4 hc
    go_wp2_with fail
    go_ret
    exact ⟨by rw [K.out]; rfl, 0, rfl⟩
end Go.Proofs.Ytcagonpnjionhaa

/-! The program's Match. -/
set_option linter.unusedVariables false
set_option linter.unusedSimpArgs false
namespace Go.Proofs.Ytcagonpnjionhaa
open Go.RowKit

def bools (l : List Bool) : List Value := l.map Value.bool
theorem bools_len (l : List Bool) : (bools l).length = l.length := by simp [bools]
theorem bools_at {l : List Bool} {i : Nat} (h : i < l.length) : (bools l)[i]? = some (.bool (l[i]?.getD false)) := by simp [bools, List.getElem?_eq_getElem h]
theorem bools_set (l : List Bool) (i : Nat) (b : Bool) : (bools l).set i (.bool b) = bools (l.set i b) := by simp [bools, List.map_set]
theorem grown_set {w w1 : World} {g : Nat} (h : w.grownBy w1 (some g)) (j : Nat) (v : Value) : w.grownBy (w1.setCell ⟨g, j, none⟩ v) (some g) :=
  ⟨h.os, h.tape, h.output, by simp; exact h.size, fun k hk hne => (heap_setCell_other w1 _ k v (by intro e; exact hne (by rw [e]))).trans (h.block k hk hne)⟩
theorem grown_refl (w : World) (g : Nat) : w.grownBy w (some g) := ⟨rfl, rfl, rfl, Nat.le_refl _, fun _ _ _ => rfl⟩
theorem encG_len {g : Sg} (h : g.set.length = 256) : (encG g).length = 259 := encK_len h
theorem encSs_at : ∀ {L : List Sg} (_ : ∀ g ∈ L, g.set.length = 256) {i : Nat} {x : Sg}, L[i]? = some x → ∀ j v, (encG x)[j]? = some v → (encSs L)[i * 259 + j]? = some v
  | [], _, _, _, h, _, _, _ => by simp at h
  | y :: L, hs, 0, x, h, j, v, hv => by
    simp only [List.getElem?_cons_zero, Option.some.injEq] at h
    subst h
    show (encG y ++ encSs L)[0 * 259 + j]? = _
    rw [Nat.zero_mul, Nat.zero_add, List.getElem?_append_left (List.getElem?_eq_some_iff.1 hv).1]
    exact hv
  | y :: L, hs, i+1, x, h, j, v, hv => by
    simp only [List.getElem?_cons_succ] at h
    show (encG y ++ encSs L)[(i + 1) * 259 + j]? = _
    have hl := encG_len (hs y List.mem_cons_self)
    rw [List.getElem?_append_right (by omega), hl, show (i + 1) * 259 + j - 259 = i * 259 + j by omega]
    exact encSs_at (fun g hg => hs g (List.mem_cons_of_mem _ hg)) h j v hv
theorem encSs_len {L : List Sg} (hs : ∀ g ∈ L, g.set.length = 256) : (encSs L).length = L.length * 259 := by
  induction L with
  | nil => rfl
  | cons y L ih =>
    show (encG y ++ encSs L).length = _
    rw [List.length_append, encG_len (hs y List.mem_cons_self), ih (fun g hg => hs g (List.mem_cons_of_mem _ hg)), List.length_cons]; omega
theorem Sl.sgRow {w : World} {A : Option Addr} {n : Nat} {L : List Sg} (h : Sl 259 w A n (encSs L)) (hs : ∀ g ∈ L, g.set.length = 256) {i : Nat} (hi : i < n) :
    ∃ (b o : Nat) (x : Sg), A = some ⟨b, o, none⟩ ∧ L[i]? = some x ∧ SgAt w b (o + i * 259) (encG x) := by
  have hl : L.length = n := by have := h.len; rw [encSs_len hs] at this; omega
  have hx : L[i]? = some (L[i]'(by omega)) := List.getElem?_eq_getElem (by omega)
  rcases h.at_ with h0 | ⟨b, o, rfl, hc⟩
  · have : (encSs L).length = 0 := by rw [h0]; rfl
    rw [encSs_len hs] at this; omega
  · exact ⟨b, o, _, rfl, hx, fun j v hv => by have := hc _ v (encSs_at hs hx j v hv); rwa [← Nat.add_assoc] at this⟩
theorem sgAt_eq {L : List Sg} {i : Nat} {x : Sg} (h : L[i]? = some x) : sgAt L i = x := by unfold sgAt; rw [h]; rfl
set_option maxRecDepth 100000 in
set_option maxHeartbeats 4000000 in
theorem empty_any (A : Option Addr) (n c g : Nat) (L : List Sg) (bs : List Bool) (w : World) (hs : Sl 259 w A n (encSs L)) (hset : ∀ x ∈ L, x.set.length = 256) (hb : Blk w g 4 (bools bs)) (hbl : bs.length = n + 1) (hn : n ≤ 1000) (hne : ∀ a, A = some a → a.block ≠ g) :
    Calls Try.prog 70 #[.slice A n c, .slice (some ⟨g, 0, none⟩) (n + 1) (n + 1)] w fun e w' => e = .returned (.tuple #[]) ∧ Blk w' g 4 (bools (closeF L n bs)) ∧ w.grownBy w' (some g) := by
  have HS := Lib.hid hs
  have HSET := Lib.hid hset
  have HB := Lib.hid hb
  have HNE := Lib.hid hne
  clear hs hset hb hne
  go_enter Try.func70, Try.ntmps70
  go_wp2_with fail
  go_loopw [7] (fun a wr => ∃ i : Nat, a = .int .i64 i ∧ i ≤ n ∧ Blk wr g 4 (bools (closeF L i bs)) ∧ w.grownBy wr (some g)) (fun a _ => n - (intOf a).toNat)
  case atStart => exact ⟨0, rfl, by omega, HB.out, grown_refl w g⟩
  case round =>
    obtain ⟨i, rfl, hi, hbk, hg⟩ := hrel
    have hcl := closeF_len L i bs
    rcases Nat.lt_or_ge i n with h | h
    · obtain ⟨b, o, x, hA, hr, hsg⟩ := (HS.out.grown hg (fun a k ha hk => by cases hk; exact HNE.out a ha)).sgRow HSET.out h
      subst hA
      have c0 := hbk.cell i
      rw [bools_at (by omega)] at c0
      have k0 : wr.cell? ⟨b, o + i * 259, none⟩ = some (.int .i64 x.k) := hsg 0 _ rfl
      have c1 := hbk.cell (i + 1)
      rw [bools_at (by omega)] at c1
      have f1 := hbk.frozen (i + 1)
      have hx := sgAt_eq hr
      have KC := Lib.hid (show closeF L (i + 1) bs = if (closeF L i bs)[i]?.getD false && starG x then (closeF L i bs).set (i + 1) true else closeF L i bs by rw [closeF, hx])
      have HBK := Lib.hid hbk
      have HG := Lib.hid hg
      have e1 : ((i : Int) + 1).toNat = i + 1 := by omega
      have KX : Hid (starG x = (x.k == 1 || x.k == 2)) := Lib.hid rfl
      clear hbk hg hsg hr hx hcl
      generalize hbit : (closeF L i bs)[i]?.getD false = bit at *
      cases bit with
      | false =>
        have K := Lib.hid (show closeF L (i + 1) bs = closeF L i bs by rw [KC.out]; simp)
        clear hbit
        go_wp2_with fail
        go_roundw
        case rel => exact ⟨i + 1, by go_num, by omega, by rw [K.out]; exact HBK.out, HG.out⟩
        case measure => simp [intOf]; omega
      | true =>
        clear hbit
        by_cases q1 : x.k = 1
        · have K := Lib.hid (show closeF L (i + 1) bs = (closeF L i bs).set (i + 1) true by rw [KC.out, KX.out, q1]; simp)
          have e3 : ((x.k : Int) == 1) = true := by simp [q1]
          have b2 := HBK.out.set (i + 1) (.bool true)
          rw [bools_set, ← K.out] at b2
          have HB2 := Lib.hid b2
          clear q1 b2
          go_wp2_with fail
          go_roundw
          case rel => exact ⟨i + 1, by go_num, by omega, HB2.out, grown_set HG.out _ _⟩
          case measure => simp [intOf]; omega
        have e3 : ((x.k : Int) == 1) = false := by simp; omega
        by_cases q2 : x.k = 2
        · have K := Lib.hid (show closeF L (i + 1) bs = (closeF L i bs).set (i + 1) true by rw [KC.out, KX.out, q2]; simp)
          have e4 : ((x.k : Int) == 2) = true := by simp [q2]
          have b2 := HBK.out.set (i + 1) (.bool true)
          rw [bools_set, ← K.out] at b2
          have HB2 := Lib.hid b2
          clear q1 q2 b2
          go_wp2_with fail
          go_roundw
          case rel => exact ⟨i + 1, by go_num, by omega, HB2.out, grown_set HG.out _ _⟩
          case measure => simp [intOf]; omega
        · have K := Lib.hid (show closeF L (i + 1) bs = closeF L i bs by rw [KC.out, KX.out]; simp [q1, q2])
          have e4 : ((x.k : Int) == 2) = false := by simp; omega
          clear q1 q2
          go_wp2_with fail
          go_roundw
          case rel => exact ⟨i + 1, by go_num, by omega, by rw [K.out]; exact HBK.out, HG.out⟩
          case measure => simp [intOf]; omega
    · obtain rfl : i = n := by omega
      have HBK := Lib.hid hbk
      have HG := Lib.hid hg
      clear hbk hg hcl
      go_wp2_with fail
      go_end0
      exact ⟨rfl, HBK.out, HG.out⟩
end Go.Proofs.Ytcagonpnjionhaa

/-! The program's Match. -/
set_option linter.unusedVariables false
set_option linter.unusedSimpArgs false
namespace Go.Proofs.Ytcagonpnjionhaa
open Go.RowKit

theorem Sl.drewG {sz : Nat} {w : World} {A : Option Addr} {n : Nat} {cs : List Value} (h : Sl sz w A n cs) (m : Nat) : Sl sz (w.drewN m) A n cs := ⟨h.len, h.max, h.at_⟩
theorem infoL : (Try.prog.info? 4).map (fun i => (i.zero, i.size, i.bytes)) = some (some (.bool false), 1, 1) := by kernel_rfl
theorem madeBools (n : Nat) : (madeCells (Value.bool false).cells (n * 1)).toList = bools (List.replicate n false) := by
  have hl : (madeCells (Value.bool false).cells (n * 1)).toList.length = n := by rw [Array.length_toList, size_madeCells, Nat.mul_one]
  refine List.ext_getElem? fun j => ?_
  rcases Nat.lt_or_ge j n with h | h
  · rw [List.getElem?_eq_getElem (by omega), bools_at (by simp; omega), List.getElem?_replicate, if_pos h]
    have : (Value.bool false).cells = #[.bool false] := rfl
    simp [madeCells, this, Nat.mod_one]
  · rw [List.getElem?_eq_none (by omega), List.getElem?_eq_none (by rw [bools_len]; simp; omega)]
theorem sl_set {w : World} {A : Option Addr} {n sz : Nat} {cs : List Value} (h : Sl sz w A n cs) {g : Nat} (hne : ∀ a, A = some a → a.block ≠ g) (j : Nat) (v : Value) : Sl sz (w.setCell ⟨g, j, none⟩ v) A n cs :=
  h.grown (grown_set (grown_refl w g) j v) (fun a k ha hk => by cases hk; exact hne a ha)
theorem stepF_next (L : List Sg) (c : UInt8) (r : List Bool) (k : Nat) (x : Sg) (h : L[k]? = some x) : stepF L c r (k + 1) = if r[k]?.getD false && takesF x c then (if starG x then (stepF L c r k).set k true else (stepF L c r k).set (k + 1) true) else stepF L c r k := by
  rw [stepF, sgAt_eq h]
set_option maxRecDepth 100000 in
set_option maxHeartbeats 8000000 in
theorem match_any (p s : ByteArray) (w : World) (hp : p.size ≤ 140737488355328) (hs : s.size ≤ 140737488355328) :
    Calls Try.prog 59 #[.string p, .string s] w fun e w' => e = .returned (.bool (decide (p.size ≤ 100) && ((patF p.data.toList).map (matchF · s.data.toList)).getD false)) ∧ Below w.heap.size w w' := by
  obtain ⟨i0, hi0, hz0, hz1, hz2⟩ := info_parts infoL
  have HPS := Lib.hid (show p.data.toList.length = p.size by rw [Array.length_toList]; rfl)
  have HSS := Lib.hid (show s.data.toList.length = s.size by rw [Array.length_toList]; rfl)
  go_enter Try.func59, Try.ntmps59
  go_wp2_with fail
  refine (signs_any p w hp).mono ?_
  rintro e w1 ⟨hTS, hb1⟩
  have HB1 := Lib.hid hb1
  rcases hTS with ⟨hp100, L, A, c, rfl, hpat, hL, hset, hAlt, hsl⟩ | ⟨hno, rfl⟩
  · rw [HPS.out] at hp100
    have KM := Lib.hid (show (decide (p.size ≤ 100) && ((patF p.data.toList).map (matchF · s.data.toList)).getD false) = matchF L s.data.toList by rw [decide_eq_true hp100, hpat]; rfl)
    have HSET := Lib.hid hset
    have HSL := Lib.hid hsl
    clear HSL
    generalize hn : L.length = n at *
    have HN := Lib.hid hn
    have hmk := run_make (P := Try.prog) (w := w1) 86 4 i0 (.bool false) Try.underlying86 hi0 hz0 .i64 .i64 ((n : Int) + 1) ((n : Int) + 1) (by omega) (by omega) (by rw [hz2]; omega) (by omega)
    rw [show ((n : Int) + 1).toNat = n + 1 by omega, hz1] at hmk
    have B0 := Blk.newA w1 4 (madeCells (Value.bool false).cells ((n + 1) * 1))
    rw [madeBools] at B0
    have hbw : Below w1.heap.size w1 (w1.alloc (.cells (madeCells (Value.bool false).cells ((n + 1) * 1)) 4)) := (Below.refl _ _).alloc (Nat.le_refl _) _
    generalize hw2 : w1.alloc (.cells (madeCells (Value.bool false).cells ((n + 1) * 1)) 4) = w2 at *
    have hs0 : (bools (List.replicate (n + 1) false)).set 0 (.bool true) = bools (true :: List.replicate n false) := by rw [List.replicate_succ]; rfl
    have c0 := B0.cell 0
    rw [bools_at (by simp)] at c0
    have f0 := B0.frozen 0
    have b1 := B0.set 0 (.bool true)
    rw [hs0] at b1
    have hbw2 : Below w1.heap.size w1 (w2.setCell ⟨w1.heap.size, 0, none⟩ (.bool true)) := Below.setCell hbw (Nat.le_refl _) _
    have hsl2 := hsl.below hbw2
    have hne2 : ∀ a, A = some a → a.block ≠ w1.heap.size := fun a ha => by have := hAlt a ha; omega
    have B1 := Lib.hid b1
    have HALT := Lib.hid hAlt
    have HBW2 := Lib.hid hbw2
    have HSL2 := Lib.hid hsl2
    have HNE2 := Lib.hid hne2
    clear hsl hAlt hbw B0 hb1 hs0 b1 hbw2 hsl2 hne2 hset hpat hn hw2 hi0 hz0 hz1 hz2
    go_wp2_with fail
    refine (empty_any A n c w1.heap.size L (true :: List.replicate n false) _ HSL2.out HSET.out B1.out (by simp) (by omega) HNE2.out).mono ?_
    rintro e w3 ⟨rfl, hbk3, hg3⟩
    have hr0 := row_zero L s.data.toList
    rw [HN.out] at hr0
    rw [hr0] at hbk3
    have HBK3 := Lib.hid hbk3
    have HSL3 := Lib.hid (HSL2.out.grown hg3 (fun a k ha hk => by cases hk; exact HNE2.out a ha))
    have HB3 := Lib.hid (HBW2.out.grown hg3 HBW2.out.size (fun k hk => by cases hk; exact Nat.le_refl _))
    clear hbk3 hg3 hr0 c0 f0 hmk
    go_wp2_with fail
    go_loopw [7, 29] (fun v a wr => ∃ (i g : Nat), a = .int .i64 i ∧ i ≤ s.size ∧ v = .slice (some ⟨g, 0, none⟩) (n + 1) (n + 1) ∧ Blk wr g 4 (bools (row L s.data.toList i)) ∧ Sl 259 wr A n (encSs L) ∧ (∀ a, A = some a → a.block < wr.heap.size) ∧ (∀ a, A = some a → a.block ≠ g) ∧ w1.heap.size ≤ g ∧ Below w1.heap.size w1 wr) (fun _ a _ => s.size - (intOf a).toNat)
    case atStart => exact ⟨0, w1.heap.size, rfl, by omega, rfl, HBK3.out, HSL3.out, fun a ha => Nat.lt_of_lt_of_le (HALT.out a ha) HB3.out.size, HNE2.out, Nat.le_refl _, HB3.out⟩
    case round =>
      obtain ⟨i, g, rfl, hi, rfl, hbk, hsl, hlt, hne, hgb, hb⟩ := hrel
      rcases Nat.lt_or_ge i s.size with h | h
      · obtain ⟨x, hx0⟩ : ∃ x, s[i]'h = x := ⟨_, rfl⟩
        have HC := Lib.hid (show s.data.toList[i]?.getD 0 = x by rw [data_at s i h, hx0]; rfl)
        have hgs := hbk.lt
        obtain ⟨i0, hi0, hz0, hz1, hz2⟩ := info_parts infoL
        have hmk := run_make (P := Try.prog) (w := wr) 86 4 i0 (.bool false) Try.underlying86 hi0 hz0 .i64 .i64 ((n : Int) + 1) ((n : Int) + 1) (by omega) (by omega) (by rw [hz2]; omega) (by omega)
        rw [show ((n : Int) + 1).toNat = n + 1 by omega, hz1] at hmk
        have B0 := Blk.newA wr 4 (madeCells (Value.bool false).cells ((n + 1) * 1))
        rw [madeBools] at B0
        have hst0 : stepF L x (row L s.data.toList i) 0 = List.replicate (n + 1) false := by rw [stepF, HN.out]
        rw [← hst0] at B0
        have hbw : Below wr.heap.size wr (wr.alloc (.cells (madeCells (Value.bool false).cells ((n + 1) * 1)) 4)) := (Below.refl _ _).alloc (Nat.le_refl _) _
        have E0 := Lib.hid B0
        have E1 := Lib.hid (hbk.below hbw)
        have E2 := Lib.hid (hsl.below hbw)
        have E3 := Lib.hid (show ∀ a, A = some a → a.block ≠ wr.heap.size from fun a ha => by have := hlt a ha; omega)
        have E4 := Lib.hid (show g ≠ wr.heap.size by omega)
        have E5 := Lib.hid (hb.trans (hbw.mono hb.size))
        have E6 := Lib.hid hlt
        have HGB := Lib.hid hgb
        have hsz1 := hb.size
        generalize hg2 : wr.heap.size = g2 at *
        generalize wr.alloc (.cells (madeCells (Value.bool false).cells ((n + 1) * 1)) 4) = wm at *
        clear hbk hsl hlt hne hb B0 hbw hst0 hi0 hz0 hz1 hz2 hgs
        have HG2 := Lib.hid hg2
        have KR := Lib.hid (row_step L s.data.toList i)
        rw [HC.out, HN.out] at KR
        have HRL := Lib.hid (row_len L s.data.toList i)
        rw [HN.out] at HRL
        have KSL := Lib.hid (fun k => stepF_len L x (row L s.data.toList i) k)
        rw [HN.out] at KSL
        clear hg2
        generalize hR : row L s.data.toList i = R at *
        have HR := Lib.hid hR
        clear hR
        go_wp2_with fail
        clear hmk
        go_loopw [38] (fun a wq => ∃ k : Nat, a = .int .i64 k ∧ k ≤ n ∧ Blk wq g2 4 (bools (stepF L x R k)) ∧ Blk wq g 4 (bools R) ∧ Sl 259 wq A n (encSs L) ∧ Below w1.heap.size w1 wq) (fun a _ => n - (intOf a).toNat)
        case atStart => exact ⟨0, rfl, Nat.zero_le _, E0.out, E1.out, E2.out, E5.out⟩
        case round =>
          clear E0 E1 E2 E5
          obtain ⟨k, rfl, hk, hb2, hb1, hsl, hb⟩ := hrel
          rcases Nat.lt_or_ge k n with hkn | hkn
          · obtain ⟨b, o, y, hA, hr, hsg⟩ := hsl.sgRow HSET.out hkn
            have hys := HSET.out y (List.mem_of_getElem? hr)
            have cb := hb1.cell k
            rw [bools_at (by rw [HRL.out]; omega)] at cb
            have KN := Lib.hid (stepF_next L x R k y hr)
            have D2 := Lib.hid hb2
            have D1 := Lib.hid hb1
            have DS := Lib.hid hsl
            have DB := Lib.hid hb
            have DG := Lib.hid hsg
            have k0 : wr.cell? ⟨b, o + k * 259, none⟩ = some (.int .i64 y.k) := hsg 0 _ rfl
            have HYS := Lib.hid hys
            clear hb2 hb1 hsl hb hsg hr hys
            generalize hbit : R[k]?.getD false = bit at *
            have HA := Lib.hid hA
            rw [hA]
            clear hA
            go_wp2_with fail
            have q0 : (0:Int) ≤ (k:Int) := by omega
            have q1 : (k:Int) < (n:Int) + 1 := by omega
            have q2 : (k:Int) < (n:Int) := by omega
            cases bit with
            | false =>
              have K := Lib.hid (show stepF L x R (k + 1) = stepF L x R k by rw [KN.out]; simp)
              clear hbit k0
              refine wp_region_held_drew (S := fun w' => ∃ m, w' = wr.drewN m) (by kernel_rfl) (⟨1, rfl⟩) (fun hHeld => ?_)
              refine wpAnyH_take (i := 0) (oi := ?oi1) (v := ?v1) ?hi1 ?hs1 ?hf1 ?hr1 ?hQ1 (Or.inl ⟨?hg1, ?hy1⟩) hHeld ?rest1
              case hi1 => simp only [List.getElem?_toArray, List.getElem?_cons_succ, List.getElem?_cons_zero]; rfl
              case hs1 => kernel_rfl
              case hf1 => kernel_rfl
              case hr1 => kernel_rfl
              case hg1 => rfl
              case hy1 => (intro w hSw; first | (go_simp; done) | (go_simp; with_reducible rfl))
              case hQ1 => exact fun _ _ _ h => h
              try simp only [Act.put, List.setIfInBounds_toArray, List.set_cons_zero, List.set_cons_succ]
              refine wpAnyH_take (i := 1) (oi := ?oi2) (v := ?v2) ?hi2 ?hs2 ?hf2 ?hr2 ?hQ2 (Or.inl ⟨?hg2, ?hy2⟩) hHeld ?rest2
              case hi2 => simp only [List.getElem?_toArray, List.getElem?_cons_succ, List.getElem?_cons_zero]; rfl
              case hs2 => kernel_rfl
              case hf2 => kernel_rfl
              case hr2 => kernel_rfl
              case hg2 => rfl
              case hy2 => (intro w hSw; first | (go_simp; done) | (go_simp; with_reducible rfl))
              case hQ2 => exact fun _ _ _ h => h
              try simp only [Act.put, List.setIfInBounds_toArray, List.set_cons_zero, List.set_cons_succ]
              refine wpAnyH_take (i := 2) (oi := ?oi3) (v := ?v3) ?hi3 ?hs3 ?hf3 ?hr3 ?hQ3 (Or.inl ⟨?hg3, ?hy3⟩) hHeld ?rest3
              case hi3 => simp only [List.getElem?_toArray, List.getElem?_cons_succ, List.getElem?_cons_zero]; rfl
              case hs3 => kernel_rfl
              case hf3 => kernel_rfl
              case hr3 => kernel_rfl
              case hg3 => rfl
              case hy3 => (intro w hSw; first | (go_simp; done) | (go_simp; with_reducible rfl))
              case hQ3 => exact fun _ _ _ h => h
              try simp only [Act.put, List.setIfInBounds_toArray, List.set_cons_zero, List.set_cons_succ]
              refine wpAnyH_take (i := 3) (oi := ?oi4) (v := ?v4) ?hi4 ?hs4 ?hf4 ?hr4 ?hQ4 (Or.inl ⟨?hg4, ?hy4⟩) hHeld ?rest4
              case hi4 => simp only [List.getElem?_toArray, List.getElem?_cons_succ, List.getElem?_cons_zero]; rfl
              case hs4 => kernel_rfl
              case hf4 => kernel_rfl
              case hr4 => kernel_rfl
              case hg4 => rfl
              case hy4 => (intro w hSw; obtain ⟨m, rfl⟩ := hSw; have x0 : (wr.drewN m).cell? ⟨g, k, none⟩ = some (.bool false) := cb; first | (go_simp; done) | (go_simp; with_reducible rfl))
              case hQ4 => exact fun _ _ _ h => h
              try simp only [Act.put, List.setIfInBounds_toArray, List.set_cons_zero, List.set_cons_succ]
              refine wpAnyH_take (i := 4) (oi := ?oi5) (v := ?v5) ?hi5 ?hs5 ?hf5 ?hr5 ?hQ5 (Or.inl ⟨?hg5, ?hy5⟩) hHeld ?rest5
              case hi5 => simp only [List.getElem?_toArray, List.getElem?_cons_succ, List.getElem?_cons_zero]; rfl
              case hs5 => kernel_rfl
              case hf5 => kernel_rfl
              case hr5 => kernel_rfl
              case hg5 => rfl
              case hy5 => (intro w hSw; first | (go_simp; done) | (go_simp; with_reducible rfl))
              case hQ5 => exact fun _ _ _ h => h
              try simp only [Act.put, List.setIfInBounds_toArray, List.set_cons_zero, List.set_cons_succ]
              refine wpAnyH_take (i := 5) (oi := ?oi6) (v := ?v6) ?hi6 ?hs6 ?hf6 ?hr6 ?hQ6 (Or.inl ⟨?hg6, ?hy6⟩) hHeld ?rest6
              case hi6 => simp only [List.getElem?_toArray, List.getElem?_cons_succ, List.getElem?_cons_zero]; rfl
              case hs6 => kernel_rfl
              case hf6 => kernel_rfl
              case hr6 => kernel_rfl
              case hg6 => rfl
              case hy6 => (intro w hSw; first | (go_simp; done) | (go_simp; with_reducible rfl))
              case hQ6 => exact fun _ _ _ h => h
              try simp only [Act.put, List.setIfInBounds_toArray, List.set_cons_zero, List.set_cons_succ]
              refine wpAnyH_take (i := 6) (oi := ?oi7) (v := _) ?hi7 ?hs7 ?hf7 ?hr7 ?hQ7 (Or.inr ⟨?hg7, rfl⟩) hHeld ?rest7
              case hi7 => simp only [List.getElem?_toArray, List.getElem?_cons_succ, List.getElem?_cons_zero]; rfl
              case hs7 => kernel_rfl
              case hf7 => kernel_rfl
              case hr7 => kernel_rfl
              case hg7 => rfl
              case hQ7 => exact fun _ _ _ h => h
              try simp only [Act.put, List.setIfInBounds_toArray, List.set_cons_zero, List.set_cons_succ]
              refine wpAnyH_take (i := 7) (oi := ?oi8) (v := _) ?hi8 ?hs8 ?hf8 ?hr8 ?hQ8 (Or.inr ⟨?hg8, rfl⟩) hHeld ?rest8
              case hi8 => simp only [List.getElem?_toArray, List.getElem?_cons_succ, List.getElem?_cons_zero]; rfl
              case hs8 => kernel_rfl
              case hf8 => kernel_rfl
              case hr8 => kernel_rfl
              case hg8 => rfl
              case hQ8 => exact fun _ _ _ h => h
              try simp only [Act.put, List.setIfInBounds_toArray, List.set_cons_zero, List.set_cons_succ]
              refine wpAnyH_take (i := 8) (oi := ?oi9) (v := _) ?hi9 ?hs9 ?hf9 ?hr9 ?hQ9 (Or.inr ⟨?hg9, rfl⟩) hHeld ?rest9
              case hi9 => simp only [List.getElem?_toArray, List.getElem?_cons_succ, List.getElem?_cons_zero]; rfl
              case hs9 => kernel_rfl
              case hf9 => kernel_rfl
              case hr9 => kernel_rfl
              case hg9 => rfl
              case hQ9 => exact fun _ _ _ h => h
              try simp only [Act.put, List.setIfInBounds_toArray, List.set_cons_zero, List.set_cons_succ]
              refine wpAnyH_take (i := 9) (oi := ?oi10) (v := _) ?hi10 ?hs10 ?hf10 ?hr10 ?hQ10 (Or.inr ⟨?hg10, rfl⟩) hHeld ?rest10
              case hi10 => simp only [List.getElem?_toArray, List.getElem?_cons_succ, List.getElem?_cons_zero]; rfl
              case hs10 => kernel_rfl
              case hf10 => kernel_rfl
              case hr10 => kernel_rfl
              case hg10 => rfl
              case hQ10 => exact fun _ _ _ h => h
              try simp only [Act.put, List.setIfInBounds_toArray, List.set_cons_zero, List.set_cons_succ]
              refine wpAnyH_take (i := 10) (oi := ?oi11) (v := _) ?hi11 ?hs11 ?hf11 ?hr11 ?hQ11 (Or.inr ⟨?hg11, rfl⟩) hHeld ?rest11
              case hi11 => simp only [List.getElem?_toArray, List.getElem?_cons_succ, List.getElem?_cons_zero]; rfl
              case hs11 => kernel_rfl
              case hf11 => kernel_rfl
              case hr11 => kernel_rfl
              case hg11 => rfl
              case hQ11 => exact fun _ _ _ h => h
              try simp only [Act.put, List.setIfInBounds_toArray, List.set_cons_zero, List.set_cons_succ]
              refine wpAnyH_take (i := 11) (oi := ?oi12) (v := _) ?hi12 ?hs12 ?hf12 ?hr12 ?hQ12 (Or.inr ⟨?hg12, rfl⟩) hHeld ?rest12
              case hi12 => simp only [List.getElem?_toArray, List.getElem?_cons_succ, List.getElem?_cons_zero]; rfl
              case hs12 => kernel_rfl
              case hf12 => kernel_rfl
              case hr12 => kernel_rfl
              case hg12 => rfl
              case hQ12 => exact fun _ _ _ h => h
              try simp only [Act.put, List.setIfInBounds_toArray, List.set_cons_zero, List.set_cons_succ]
              refine wpAnyH_take (i := 12) (oi := ?oi13) (v := _) ?hi13 ?hs13 ?hf13 ?hr13 ?hQ13 (Or.inr ⟨?hg13, rfl⟩) hHeld ?rest13
              case hi13 => simp only [List.getElem?_toArray, List.getElem?_cons_succ, List.getElem?_cons_zero]; rfl
              case hs13 => kernel_rfl
              case hf13 => kernel_rfl
              case hr13 => kernel_rfl
              case hg13 => rfl
              case hQ13 => exact fun _ _ _ h => h
              try simp only [Act.put, List.setIfInBounds_toArray, List.set_cons_zero, List.set_cons_succ]
              refine wpAnyH_take (i := 13) (oi := ?oi14) (v := _) ?hi14 ?hs14 ?hf14 ?hr14 ?hQ14 (Or.inr ⟨?hg14, rfl⟩) hHeld ?rest14
              case hi14 => simp only [List.getElem?_toArray, List.getElem?_cons_succ, List.getElem?_cons_zero]; rfl
              case hs14 => kernel_rfl
              case hf14 => kernel_rfl
              case hr14 => kernel_rfl
              case hg14 => rfl
              case hQ14 => exact fun _ _ _ h => h
              try simp only [Act.put, List.setIfInBounds_toArray, List.set_cons_zero, List.set_cons_succ]
              refine wpAnyH_take (i := 14) (oi := ?oi15) (v := ?v15) ?hi15 ?hs15 ?hf15 ?hr15 ?hQ15 (Or.inl ⟨?hg15, ?hy15⟩) hHeld ?rest15
              case hi15 => simp only [List.getElem?_toArray, List.getElem?_cons_succ, List.getElem?_cons_zero]; rfl
              case hs15 => kernel_rfl
              case hf15 => kernel_rfl
              case hr15 => kernel_rfl
              case hg15 => rfl
              case hy15 => (intro w hSw; first | (go_simp; done) | (go_simp; with_reducible rfl))
              case hQ15 => exact fun _ _ _ h => h
              try simp only [Act.put, List.setIfInBounds_toArray, List.set_cons_zero, List.set_cons_succ]
              refine wpAnyH_done (by kernel_rfl) ?_ _
              clear hHeld
              go_wp2_with fail
              go_roundw
              case rel => exact ⟨k + 1, by go_num, by omega, by rw [K.out]; exact D2.out, D1.out, by rw [← HA.out]; exact DS.out.drew, DB.out.drew⟩
              case measure => simp [intOf]; omega
            | true =>
              refine wp_region_held_drew (S := fun w' => ∃ m, w' = wr.drewN m) (by kernel_rfl) (⟨1, rfl⟩) (fun hHeld => ?_)
              refine wpAnyH_take (i := 0) (oi := ?oi16) (v := ?v16) ?hi16 ?hs16 ?hf16 ?hr16 ?hQ16 (Or.inl ⟨?hg16, ?hy16⟩) hHeld ?rest16
              case hi16 => simp only [List.getElem?_toArray, List.getElem?_cons_succ, List.getElem?_cons_zero]; rfl
              case hs16 => kernel_rfl
              case hf16 => kernel_rfl
              case hr16 => kernel_rfl
              case hg16 => rfl
              case hy16 => (intro w hSw; first | (go_simp; done) | (go_simp; with_reducible rfl))
              case hQ16 => exact fun _ _ _ h => h
              try simp only [Act.put, List.setIfInBounds_toArray, List.set_cons_zero, List.set_cons_succ]
              refine wpAnyH_take (i := 1) (oi := ?oi17) (v := ?v17) ?hi17 ?hs17 ?hf17 ?hr17 ?hQ17 (Or.inl ⟨?hg17, ?hy17⟩) hHeld ?rest17
              case hi17 => simp only [List.getElem?_toArray, List.getElem?_cons_succ, List.getElem?_cons_zero]; rfl
              case hs17 => kernel_rfl
              case hf17 => kernel_rfl
              case hr17 => kernel_rfl
              case hg17 => rfl
              case hy17 => (intro w hSw; first | (go_simp; done) | (go_simp; with_reducible rfl))
              case hQ17 => exact fun _ _ _ h => h
              try simp only [Act.put, List.setIfInBounds_toArray, List.set_cons_zero, List.set_cons_succ]
              refine wpAnyH_take (i := 2) (oi := ?oi18) (v := ?v18) ?hi18 ?hs18 ?hf18 ?hr18 ?hQ18 (Or.inl ⟨?hg18, ?hy18⟩) hHeld ?rest18
              case hi18 => simp only [List.getElem?_toArray, List.getElem?_cons_succ, List.getElem?_cons_zero]; rfl
              case hs18 => kernel_rfl
              case hf18 => kernel_rfl
              case hr18 => kernel_rfl
              case hg18 => rfl
              case hy18 => (intro w hSw; first | (go_simp; done) | (go_simp; with_reducible rfl))
              case hQ18 => exact fun _ _ _ h => h
              try simp only [Act.put, List.setIfInBounds_toArray, List.set_cons_zero, List.set_cons_succ]
              refine wpAnyH_take (i := 3) (oi := ?oi19) (v := ?v19) ?hi19 ?hs19 ?hf19 ?hr19 ?hQ19 (Or.inl ⟨?hg19, ?hy19⟩) hHeld ?rest19
              case hi19 => simp only [List.getElem?_toArray, List.getElem?_cons_succ, List.getElem?_cons_zero]; rfl
              case hs19 => kernel_rfl
              case hf19 => kernel_rfl
              case hr19 => kernel_rfl
              case hg19 => rfl
              case hy19 => (intro w hSw; obtain ⟨m, rfl⟩ := hSw; have x0 : (wr.drewN m).cell? ⟨g, k, none⟩ = some (.bool true) := cb; first | (go_simp; done) | (go_simp; with_reducible rfl))
              case hQ19 => exact fun _ _ _ h => h
              try simp only [Act.put, List.setIfInBounds_toArray, List.set_cons_zero, List.set_cons_succ]
              refine wpAnyH_take (i := 4) (oi := ?oi20) (v := ?v20) ?hi20 ?hs20 ?hf20 ?hr20 ?hQ20 (Or.inl ⟨?hg20, ?hy20⟩) hHeld ?rest20
              case hi20 => simp only [List.getElem?_toArray, List.getElem?_cons_succ, List.getElem?_cons_zero]; rfl
              case hs20 => kernel_rfl
              case hf20 => kernel_rfl
              case hr20 => kernel_rfl
              case hg20 => rfl
              case hy20 => (intro w hSw; first | (go_simp; done) | (go_simp; with_reducible rfl))
              case hQ20 => exact fun _ _ _ h => h
              try simp only [Act.put, List.setIfInBounds_toArray, List.set_cons_zero, List.set_cons_succ]
              refine wpAnyH_take (i := 5) (oi := ?oi21) (v := ?v21) ?hi21 ?hs21 ?hf21 ?hr21 ?hQ21 (Or.inl ⟨?hg21, ?hy21⟩) hHeld ?rest21
              case hi21 => simp only [List.getElem?_toArray, List.getElem?_cons_succ, List.getElem?_cons_zero]; rfl
              case hs21 => kernel_rfl
              case hf21 => kernel_rfl
              case hr21 => kernel_rfl
              case hg21 => rfl
              case hy21 => (intro w hSw; first | (go_simp; done) | (go_simp; with_reducible rfl))
              case hQ21 => exact fun _ _ _ h => h
              try simp only [Act.put, List.setIfInBounds_toArray, List.set_cons_zero, List.set_cons_succ]
              refine wpAnyH_take (i := 6) (oi := ?oi22) (v := ?v22) ?hi22 ?hs22 ?hf22 ?hr22 ?hQ22 (Or.inl ⟨?hg22, ?hy22⟩) hHeld ?rest22
              case hi22 => simp only [List.getElem?_toArray, List.getElem?_cons_succ, List.getElem?_cons_zero]; rfl
              case hs22 => kernel_rfl
              case hf22 => kernel_rfl
              case hr22 => kernel_rfl
              case hg22 => rfl
              case hy22 => (intro w hSw; first | (go_simp; done) | (go_simp; with_reducible rfl))
              case hQ22 => exact fun _ _ _ h => h
              try simp only [Act.put, List.setIfInBounds_toArray, List.set_cons_zero, List.set_cons_succ]
              refine wpAnyH_take (i := 7) (oi := ?oi23) (v := ?v23) ?hi23 ?hs23 ?hf23 ?hr23 ?hQ23 (Or.inl ⟨?hg23, ?hy23⟩) hHeld ?rest23
              case hi23 => simp only [List.getElem?_toArray, List.getElem?_cons_succ, List.getElem?_cons_zero]; rfl
              case hs23 => kernel_rfl
              case hf23 => kernel_rfl
              case hr23 => kernel_rfl
              case hg23 => rfl
              case hy23 => (intro w hSw; first | (go_simp; done) | (go_simp; with_reducible rfl))
              case hQ23 => exact fun _ _ _ h => h
              try simp only [Act.put, List.setIfInBounds_toArray, List.set_cons_zero, List.set_cons_succ]
              refine wpAnyH_take (i := 8) (oi := ?oi24) (v := ?v24) ?hi24 ?hs24 ?hf24 ?hr24 ?hQ24 (Or.inl ⟨?hg24, ?hy24⟩) hHeld ?rest24
              case hi24 => simp only [List.getElem?_toArray, List.getElem?_cons_succ, List.getElem?_cons_zero]; rfl
              case hs24 => kernel_rfl
              case hf24 => kernel_rfl
              case hr24 => kernel_rfl
              case hg24 => rfl
              case hy24 => (intro w hSw; first | (go_simp; done) | (go_simp; with_reducible rfl))
              case hQ24 => exact fun _ _ _ h => h
              try simp only [Act.put, List.setIfInBounds_toArray, List.set_cons_zero, List.set_cons_succ]
              refine wpAnyH_take (i := 9) (oi := ?oi25) (v := ?v25) ?hi25 ?hs25 ?hf25 ?hr25 ?hQ25 (Or.inl ⟨?hg25, ?hy25⟩) hHeld ?rest25
              case hi25 => simp only [List.getElem?_toArray, List.getElem?_cons_succ, List.getElem?_cons_zero]; rfl
              case hs25 => kernel_rfl
              case hf25 => kernel_rfl
              case hr25 => kernel_rfl
              case hg25 => rfl
              case hy25 => (intro w hSw; first | (go_simp; done) | (go_simp; with_reducible rfl))
              case hQ25 => exact fun _ _ _ h => h
              try simp only [Act.put, List.setIfInBounds_toArray, List.set_cons_zero, List.set_cons_succ]
              refine wpAnyH_take (i := 10) (oi := ?oi26) (v := ?v26) ?hi26 ?hs26 ?hf26 ?hr26 ?hQ26 (Or.inl ⟨?hg26, ?hy26⟩) hHeld ?rest26
              case hi26 => simp only [List.getElem?_toArray, List.getElem?_cons_succ, List.getElem?_cons_zero]; rfl
              case hs26 => kernel_rfl
              case hf26 => kernel_rfl
              case hr26 => kernel_rfl
              case hg26 => rfl
              case hy26 => (intro w hSw; first | (go_simp; done) | (go_simp; with_reducible rfl))
              case hQ26 => exact fun _ _ _ h => h
              try simp only [Act.put, List.setIfInBounds_toArray, List.set_cons_zero, List.set_cons_succ]
              refine wpAnyH_take (i := 11) (oi := ?oi27) (v := ?v27) ?hi27 ?hs27 ?hf27 ?hr27 ?hQ27 (Or.inl ⟨?hg27, ?hy27⟩) hHeld ?rest27
              case hi27 => simp only [List.getElem?_toArray, List.getElem?_cons_succ, List.getElem?_cons_zero]; rfl
              case hs27 => kernel_rfl
              case hf27 => kernel_rfl
              case hr27 => kernel_rfl
              case hg27 => rfl
              case hy27 => (intro w hSw; first | (go_simp; done) | (go_simp; with_reducible rfl))
              case hQ27 => exact fun _ _ _ h => h
              try simp only [Act.put, List.setIfInBounds_toArray, List.set_cons_zero, List.set_cons_succ]
              refine wpAnyH_ready (rs := [12]) (by kernel_rfl) (by simp) ?_
              refine AllReadyH.cons (o := ?oi28) ?hi28 (fun K hK => ?_) AllReadyH.nil
              case hi28 => simp only [List.getElem?_toArray, List.getElem?_cons_succ, List.getElem?_cons_zero]; rfl
              go_simp; go_at_call 71; refine (takes_any b (o + k * 259) y x wr.drew HYS.out (fun j v hj => DG.out j v hj)).mono ?_; rintro e wq ⟨rfl, nq, rfl⟩; go_wp2_with fail
              refine hK.out _ _ (⟨_, rfl⟩) (fun hHeld2 => ?_)
              clear hK K hHeld
              have hHeld := hHeld2
              clear hHeld2
              try simp only [Act.put, List.setIfInBounds_toArray, List.set_cons_zero, List.set_cons_succ]
              generalize htk : takesF y x = tk at *
              have HTK := Lib.hid htk
              clear htk
              cases tk with
              | false =>
                have K := Lib.hid (show stepF L x R (k + 1) = stepF L x R k by rw [KN.out]; simp)
                clear k0
                refine wpAnyH_take (i := 13) (oi := ?oi29) (v := ?v29) ?hi29 ?hs29 ?hf29 ?hr29 ?hQ29 (Or.inl ⟨?hg29, ?hy29⟩) hHeld ?rest29
                case hi29 => simp only [List.getElem?_toArray, List.getElem?_cons_succ, List.getElem?_cons_zero]; rfl
                case hs29 => kernel_rfl
                case hf29 => kernel_rfl
                case hr29 => kernel_rfl
                case hg29 => rfl
                case hy29 => (intro w hSw; first | (go_simp; done) | (go_simp; with_reducible rfl))
                case hQ29 => exact fun _ _ _ h => h
                try simp only [Act.put, List.setIfInBounds_toArray, List.set_cons_zero, List.set_cons_succ]
                refine wpAnyH_take (i := 14) (oi := ?oi30) (v := ?v30) ?hi30 ?hs30 ?hf30 ?hr30 ?hQ30 (Or.inl ⟨?hg30, ?hy30⟩) hHeld ?rest30
                case hi30 => simp only [List.getElem?_toArray, List.getElem?_cons_succ, List.getElem?_cons_zero]; rfl
                case hs30 => kernel_rfl
                case hf30 => kernel_rfl
                case hr30 => kernel_rfl
                case hg30 => rfl
                case hy30 => (intro w hSw; first | (go_simp; done) | (go_simp; with_reducible rfl))
                case hQ30 => exact fun _ _ _ h => h
                try simp only [Act.put, List.setIfInBounds_toArray, List.set_cons_zero, List.set_cons_succ]
                refine wpAnyH_done (by kernel_rfl) ?_ _
                clear hHeld
                go_wp2_with fail
                go_roundw
                case rel => exact ⟨k + 1, by go_num, by omega, by rw [K.out]; exact D2.out, D1.out, by rw [← HA.out]; exact DS.out.drewG _, below_drewN DB.out _⟩
                case measure => simp [intOf]; omega
              | true =>
                refine wpAnyH_take (i := 13) (oi := ?oi31) (v := ?v31) ?hi31 ?hs31 ?hf31 ?hr31 ?hQ31 (Or.inl ⟨?hg31, ?hy31⟩) hHeld ?rest31
                case hi31 => simp only [List.getElem?_toArray, List.getElem?_cons_succ, List.getElem?_cons_zero]; rfl
                case hs31 => kernel_rfl
                case hf31 => kernel_rfl
                case hr31 => kernel_rfl
                case hg31 => rfl
                case hy31 => (intro w hSw; first | (go_simp; done) | (go_simp; with_reducible rfl))
                case hQ31 => exact fun _ _ _ h => h
                try simp only [Act.put, List.setIfInBounds_toArray, List.set_cons_zero, List.set_cons_succ]
                refine wpAnyH_take (i := 14) (oi := ?oi32) (v := ?v32) ?hi32 ?hs32 ?hf32 ?hr32 ?hQ32 (Or.inl ⟨?hg32, ?hy32⟩) hHeld ?rest32
                case hi32 => simp only [List.getElem?_toArray, List.getElem?_cons_succ, List.getElem?_cons_zero]; rfl
                case hs32 => kernel_rfl
                case hf32 => kernel_rfl
                case hr32 => kernel_rfl
                case hg32 => rfl
                case hy32 => (intro w hSw; first | (go_simp; done) | (go_simp; with_reducible rfl))
                case hQ32 => exact fun _ _ _ h => h
                try simp only [Act.put, List.setIfInBounds_toArray, List.set_cons_zero, List.set_cons_succ]
                refine wpAnyH_done (by kernel_rfl) ?_ _
                clear hHeld
                have G1 := Lib.hid (D1.out.drewN (1 + nq))
                have G2 := Lib.hid (D2.out.drewN (1 + nq))
                have G3 := Lib.hid (DS.out.drewG (1 + nq))
                have G4 := Lib.hid (below_drewN DB.out (1 + nq))
                have G5 := Lib.hid (show (wr.drewN (1 + nq)).cell? ⟨b, o + k * 259, none⟩ = some (.int .i64 y.k) from k0)
                generalize wr.drewN (1 + nq) = wt at *
                clear D1 D2 DS DB DG k0 cb
                generalize hyk : y.k = yk at *
                have HYK := Lib.hid hyk
                clear hyk
                have c0 := G2.out.cell k
                rw [bools_at (by rw [KSL.out]; omega)] at c0
                have f0 := G2.out.frozen k
                have c1 := G2.out.cell (k + 1)
                rw [bools_at (by rw [KSL.out]; omega)] at c1
                have f1 := G2.out.frozen (k + 1)
                by_cases z1 : yk = 1
                · subst z1
                  have K := Lib.hid (show stepF L x R (k + 1) = (stepF L x R k).set k true by rw [KN.out]; simp [starG, HYK.out])
                  have k0 : wt.cell? ⟨b, o + k * 259, none⟩ = some (.int .i64 1) := G5.out
                  go_wp2_with fail
                  go_roundw
                  case rel => exact ⟨k + 1, by go_num, by omega, by rw [K.out, ← bools_set]; exact G2.out.set k _, G1.out.other E4.out _, by rw [← HA.out]; exact sl_set G3.out E3.out _ _, Below.setCell G4.out hsz1 _⟩
                  case measure => simp [intOf]; omega
                · by_cases z2 : yk = 2
                  · subst z2
                    have K := Lib.hid (show stepF L x R (k + 1) = (stepF L x R k).set k true by rw [KN.out]; simp [starG, HYK.out])
                    have k0 : wt.cell? ⟨b, o + k * 259, none⟩ = some (.int .i64 2) := G5.out
                    go_wp2_with fail
                    go_roundw
                    case rel => exact ⟨k + 1, by go_num, by omega, by rw [K.out, ← bools_set]; exact G2.out.set k _, G1.out.other E4.out _, by rw [← HA.out]; exact sl_set G3.out E3.out _ _, Below.setCell G4.out hsz1 _⟩
                    case measure => simp [intOf]; omega
                  · have K := Lib.hid (show stepF L x R (k + 1) = (stepF L x R k).set (k + 1) true by rw [KN.out]; simp [starG, HYK.out, z1, z2])
                    have k0 := G5.out
                    have y1 : ((yk : Int) == 1) = false := by rw [beq_eq_false_iff_ne]; omega
                    have y2 : ((yk : Int) == 2) = false := by rw [beq_eq_false_iff_ne]; omega
                    clear z1 z2
                    go_wp2_with fail
                    go_roundw
                    case rel => exact ⟨k + 1, by go_num, by omega, by rw [K.out, ← bools_set]; exact G2.out.set (k + 1) _, G1.out.other E4.out _, by rw [← HA.out]; exact sl_set G3.out E3.out _ _, Below.setCell G4.out hsz1 _⟩
                    case measure => simp [intOf]; omega
          · obtain rfl : k = n := by omega
            clear hk hkn
            have D2 := Lib.hid hb2
            have D1 := Lib.hid hb1
            have DS := Lib.hid hsl
            have DB := Lib.hid hb
            clear hb2 hb1 hsl hb
            go_wp2_with fail
            refine (empty_any A k c g2 L (stepF L x R k) _ DS.out HSET.out D2.out (KSL.out k) (by omega) E3.out).mono ?_
            rintro e wz ⟨rfl, hbz, hgz⟩
            rw [KR.out] at hbz
            have Z1 := Lib.hid hbz
            have Z2 := Lib.hid (DS.out.grown hgz (fun a k ha hk => by cases hk; exact E3.out a ha))
            have Z3 := Lib.hid (DB.out.grown hgz DB.out.size (fun k hk => by cases hk; exact hsz1))
            clear hbz hgz
            go_wp2_with fail
            go_roundw
            case rel => exact ⟨i + 1, g2, by go_num, by omega, rfl, Z1.out, Z2.out, fun a ha => by have := E6.out a ha; have := Z1.out.lt; omega, E3.out, hsz1, Z3.out⟩
            case measure => simp [intOf]; omega
      · obtain rfl : i = s.size := by omega
        clear h hi
        have KL := row_last L s.data.toList
        rw [HSS.out, HN.out] at KL
        have KL2 := Lib.hid KL
        have D1 := Lib.hid hbk
        have DB := Lib.hid hb
        have c0 := hbk.cell n
        rw [bools_at (by rw [row_len, HN.out]; omega), KL] at c0
        clear KL hbk hb hsl hlt hne
        go_wp2_with fail
        go_ret
        exact ⟨by rw [KM.out]; rfl, HB1.out.trans (DB.out.mono HB1.out.size)⟩
  · have KM := Lib.hid (show (decide (p.size ≤ 100) && ((patF p.data.toList).map (matchF · s.data.toList)).getD false) = false by
      rcases hno with h | h
      · rw [HPS.out] at h; rw [decide_eq_false (by omega)]; rfl
      · rw [h]; simp)
    clear hno hb1
    go_wp2_with fail
    go_ret
    exact ⟨by rw [KM.out]; rfl, HB1.out⟩
end Go.Proofs.Ytcagonpnjionhaa
