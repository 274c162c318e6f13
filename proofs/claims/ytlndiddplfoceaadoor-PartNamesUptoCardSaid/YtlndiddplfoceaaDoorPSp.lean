import Derived.Test.YtlndiddplfoceaaDoorOps
set_option linter.unusedVariables false
set_option linter.unusedSimpArgs false
namespace Go.Proofs.YtlndiddplfoceaaDoor
open Go.RowKit
attribute [local go_sem] max2_I max_two_I

theorem mx_oldP (old : Int) : 0 ≤ mxI old 0 := by unfold mxI; split <;> omega
theorem mx_old_leP (old : Int) (h : old ≤ 9223372036854775807) : mxI old 0 ≤ 9223372036854775807 := by unfold mxI; split <;> omega
/-- What an op says, without where its bytes lie. -/
def keyO (o : OpV) : Int × Int × Nat × List UInt8 := (o.off, o.len, o.n, o.d)
/-- An op's bytes lie in the world, and not in the row 'v'. -/
structure DatO (w : World) (v : Value) (o : OpV) : Prop where
  sl : Sl 1 w o.A o.n (bys o.d)
  cap : o.n ≤ o.c
  lt : ∀ a, o.A = some a → a.block < w.heap.size
  ne : ∀ a, o.A = some a → v.ownBlock ≠ some a.block
theorem DatO.below {w w1 : World} {v : Value} {o : OpV} (h : DatO w v o) (hb : Below w.heap.size w w1) : DatO w1 v o :=
  ⟨h.sl.below hb, h.cap, fun a ha => Nat.lt_of_lt_of_le (h.lt a ha) hb.size, h.ne⟩
theorem DatO.app {w w1 : World} {v v1 : Value} {o : OpV} (h : DatO w v o) (hg : w.grownBy w1 v.ownBlock) (hv : v1.ownBlock = v.ownBlock ∨ v1.ownBlock = some w.heap.size) : DatO w1 v1 o :=
  ⟨h.sl.grown hg (fun a k ha hk e => h.ne a ha (by rw [hk, e])), h.cap, fun a ha => Nat.lt_of_lt_of_le (h.lt a ha) hg.size, fun a ha e => by
    rcases hv with hv | hv
    · exact h.ne a ha (hv ▸ e)
    · rw [hv] at e; have := h.lt a ha; have := Option.some.inj e; omega⟩
theorem mem_take_snocP {l : List OpV} {i : Nat} {r x : OpV} (h : l[i]? = some r) (hx : x ∈ l.take (i+1)) : x ∈ l.take i ∨ x = r := mem_take_snoc h hx

set_option maxRecDepth 100000 in
set_option maxHeartbeats 4000000 in
theorem psplit_any (A : Option Addr) (n c : Nat) (l : List OpV) (old M : Int) (w : World) (hM : mxI old 0 = M) (hs : Sl 3 w A n (encsO l)) (hn : n ≤ 1099511627776)
    (hlo : -9223372036854775808 ≤ old) (hhi : old ≤ 9223372036854775807) (hin : ∀ o ∈ l, -9223372036854775808 ≤ o.off ∧ o.off ≤ 9223372036854775807)
    (hd : ∀ o ∈ l, Sl 1 w o.A o.n (bys o.d) ∧ o.n ≤ 1099511627776) :
    Calls Tryd.prog 15 #[.slice A n c, .int .i64 old] w fun e w' => ((∀ o ∈ l, ¬ BadO M o) ∧ (∃ v l', e = .returned (.tuple #[v, .bool true]) ∧ w'.ownsRow w.heap.size 32 3 v n (encsO l') ∧ l'.map keyO = l.map keyO ∧ ∀ o ∈ l', DatO w' v o) ∨ (∃ o ∈ l, BadO M o) ∧ e = .returned (.tuple #[.slice none 0 0, .bool false])) ∧ Below w.heap.size w w' := by
  have HL := Lib.hid hs.ops
  obtain ⟨i0, hi, hz0, hz1, hz2⟩ := info_parts infoO
  obtain ⟨j0, ji, jz0, jz1, jz2⟩ := info_parts infoB
  have hm0 := mx_oldP old
  have hm1 := mx_old_leP old hhi
  rw [hM] at hm0 hm1
  have HIN := Lib.hid hin
  have HD := Lib.hid hd
  clear hin hd
  go_enter Tryd.func15, Tryd.ntmps15
  go_wp2_with fail
  clear hM
  go_loopw [6, 13] (fun v a wr => ∃ (i : Nat) (l' : List OpV), a = .int .i64 i ∧ i ≤ n ∧ wr.ownsRow w.heap.size 32 3 v i (encsO l') ∧ l'.map keyO = (l.take i).map keyO ∧ (∀ o ∈ l.take i, ¬ BadO M o) ∧ (∀ o ∈ l', DatO wr v o) ∧ Below w.heap.size w wr) (fun _ a _ => n - (intOf a).toNat)
  case atStart => exact ⟨0, [], rfl, by omega, World.ownsRow_nil _ _ _ _, rfl, by simp, by simp, Below.refl _ _⟩
  case round =>
    obtain ⟨i, l', rfl, hin, hown, hkey, hall, hdat, hb⟩ := hrel
    have HALL := Lib.hid hall
    have HOW := Lib.hid hown
    have HDA := Lib.hid hdat
    have HKE := Lib.hid hkey
    have HB := Lib.hid hb
    clear hall hown hb hdat hkey
    rcases Nat.lt_or_ge i n with h | h
    · obtain ⟨b, o, x, rfl, hr, c0, c1, c2⟩ := (hs.below HB.out).row3 h
      have hmem : x ∈ l := List.mem_of_getElem? hr
      obtain ⟨hx0, hx1⟩ := HIN.out x hmem
      obtain ⟨hxs, hxn⟩ := HD.out x hmem
      have HR := Lib.hid hr
      have HXS := Lib.hid hxs
      clear hmem hr hxs
      -- the box
      have hbk1 := Blk.new wr 32 (encO x)
      have hb1 : Below wr.heap.size wr (wr.alloc (.cells (encO x).toArray 32)) := (Below.refl _ _).alloc (Nat.le_refl _) _
      by_cases hbad : BadO M x
      · have HBAD := Lib.hid hbad
        obtain ⟨hq0, hq1⟩ := hbad
        have h0i : ((x.n : Int) == 0) = true := by simp [hq0]
        clear hi hz0 hz1 hz2 ji jz0 jz1 jz2 hbk1 hb1
        by_cases h1 : x.off < 0
        · go_wp2_with fail
          go_ret2
          exact ⟨.inr ⟨⟨x, List.mem_of_getElem? HR.out, HBAD.out⟩, rfl⟩, HB.out.alloc HB.out.size _⟩
        · by_cases h2 : x.len < 1
          · go_wp2_with fail
            go_ret2
            exact ⟨.inr ⟨⟨x, List.mem_of_getElem? HR.out, HBAD.out⟩, rfl⟩, HB.out.alloc HB.out.size _⟩
          · by_cases h3 : M < x.off
            · go_wp2_with fail
              go_ret2
              exact ⟨.inr ⟨⟨x, List.mem_of_getElem? HR.out, HBAD.out⟩, rfl⟩, HB.out.alloc HB.out.size _⟩
            · have h4 : M - x.off < x.len := by omega
              go_wp2_with fail
              go_ret2
              exact ⟨.inr ⟨⟨x, List.mem_of_getElem? HR.out, HBAD.out⟩, rfl⟩, HB.out.alloc HB.out.size _⟩
      · have HGO := Lib.hid hbad
        obtain ⟨v2, w2, hap0, hown2, hg2⟩ := run_append_sl (P := Tryd.prog) (w := wr.alloc (.cells (encO x).toArray 32)) (wr.heap.size + 1) 26 26 5 j0 _ 1 1 Tryd.underlying26 ji jz0 jz1 jz2 rfl (by decide) (World.ownsRow_nil _ _ _ _) (c := x.c) ((HXS.out.below HB.out).below hb1) (bys_one _) (by omega) (by omega) (by rw [World.size_alloc]; exact Nat.le_refl _)
        simp only [Nat.zero_add, List.nil_append] at hown2
        obtain ⟨Af, cf, rfl, hcf, hslf, hbf, hnf⟩ := own_sl hown2
        have hbk2 : Blk w2 wr.heap.size 32 (encO x) := hbk1.grown hg2 (by simp [Value.ownBlock])
        have hb2 : Below wr.heap.size wr w2 := hb1.grown hg2 hb1.size (by simp [Value.ownBlock])
        have hbk3 := hbk2.set 2 (.slice Af x.n cf)
        have hb3 : Below wr.heap.size wr (w2.setCell ⟨wr.heap.size, 2, none⟩ (.slice Af x.n cf)) := hb2.setCell (Nat.le_refl _) _
        have hsl3 : Sl 1 (w2.setCell ⟨wr.heap.size, 2, none⟩ (.slice Af x.n cf)) Af x.n (bys x.d) := hslf.grown (row := some wr.heap.size) (grown_set ⟨rfl, rfl, rfl, Nat.le_refl _, fun _ _ _ => rfl⟩ 2 _) (fun a k ha hk => by cases hk; have := (hbf a ha).1; omega)
        have hown3 := own_below HOW.out hb3
        have hdat3 : ∀ o ∈ l', DatO (w2.setCell ⟨wr.heap.size, 2, none⟩ (.slice Af x.n cf)) u6 o := fun o ho => (HDA.out o ho).below hb3
        have hbw3 := HB.out.trans (hb3.mono HB.out.size)
        have hlt2 : wr.heap.size < w2.heap.size := hbk2.lt
        obtain ⟨y0, y1, y2, yf⟩ : w2.cell? ⟨wr.heap.size, 0, none⟩ = some (.int .i64 x.off) ∧ w2.cell? ⟨wr.heap.size, 1, none⟩ = some (.int .i64 x.len) ∧ w2.cell? ⟨wr.heap.size, 2, none⟩ = some (.slice x.A x.n x.c) ∧ w2.frozen? ⟨wr.heap.size, 2, none⟩ = false := ⟨hbk2.cell 0, hbk2.cell 1, hbk2.cell 2, hbk2.frozen 2⟩
        have hdN : DatO (w2.setCell ⟨wr.heap.size, 2, none⟩ (.slice Af x.n cf)) u6 ⟨x.off, x.len, Af, x.n, cf, x.d⟩ :=
          ⟨hsl3, hcf, fun a ha => by
            subst ha; rw [World.size_setCell]
            rcases hown2.2 with ⟨e, _⟩ | ⟨g, cap, cur, e, h1, h2, _⟩
            · cases e
            · cases e; exact (Array.getElem?_eq_some_iff.1 h2).1, fun a ha e => by
            have h1 := (hbf a ha).1
            have h2 := (HOW.out.lt _ e).2
            omega⟩
        have hbw3s : w.heap.size ≤ (w2.setCell ⟨wr.heap.size, 2, none⟩ (.slice Af x.n cf)).heap.size := hbw3.size
        generalize hw3 : w2.setCell ⟨wr.heap.size, 2, none⟩ (.slice Af x.n cf) = w3 at *
        have hown4 := hown3.alloc (.cells (encO ⟨x.off, x.len, Af, x.n, cf, x.d⟩).toArray 32)
        have hslN : Sl 3 (w3.alloc (.cells (encO ⟨x.off, x.len, Af, x.n, cf, x.d⟩).toArray 32)) (some ⟨w3.heap.size, 0, none⟩) 1 (encO ⟨x.off, x.len, Af, x.n, cf, x.d⟩) := ⟨rfl, by omega, .inr ⟨_, 0, rfl, fun j u hj => by rw [World.cell?_alloc_new]; simpa using hj⟩⟩
        obtain ⟨v5, w5, hap5, hown5, hg5, hob5⟩ := run_append_at (P := Tryd.prog) w.heap.size 28 28 32 i0 _ 3 40 Tryd.underlying28 hi hz0 hz1 hz2 rfl (by decide) hown4 (c := 1) hslN (by omega) (encO_one _) (by omega) (by omega) (by rw [World.size_alloc]; omega)
        rw [← encsO_snoc] at hown5
        have hbw5 := (hbw3.alloc hbw3.size (.cells (encO ⟨x.off, x.len, Af, x.n, cf, x.d⟩).toArray 32)).grown hg5 (by rw [World.size_alloc]; omega) (fun k hk => (hown4.lt k hk).1)
        have hdat5 : ∀ o ∈ l' ++ [(⟨x.off, x.len, Af, x.n, cf, x.d⟩ : OpV)], DatO w5 v5 o := by
          intro o ho
          have h0 : DatO w3 u6 o := by
            rcases List.mem_append.1 ho with h | h
            · exact hdat3 o h
            · simp only [List.mem_singleton] at h; subst h; exact hdN
          exact (h0.below ((Below.refl _ _).alloc (Nat.le_refl _) _)).app hg5 hob5
        subst hw3
        have R5 := Lib.hid (And.intro hown5 (And.intro hdat5 hbw5))
        have hkey5 := Lib.hid (show (l' ++ [(⟨x.off, x.len, Af, x.n, cf, x.d⟩ : OpV)]).map keyO = (l.take (i+1)).map keyO by rw [take_snocO HR.out, List.map_append, List.map_append, HKE.out]; rfl)
        simp only [encO, World.size_setCell] at hap0 hap5
        clear hown5 hdat5 hbw5 hown4 hslN hg5 hob5 hdN hown3 hdat3 hbw3 hbw3s hsl3 hb3 hbk3 hb2 hbk2 hslf hown2 hg2 hbf hnf hbk1 hb1 hi hz0 hz1 hz2 ji jz0 jz1 jz2
        by_cases h0 : x.n = 0
        · have h0i : ((x.n : Int) == 0) = true := by simp [h0]
          unfold BadO at hbad
          have h1 : ¬ x.off < 0 := by omega
          have h2 : ¬ x.len < 1 := by omega
          have h3 : ¬ M < x.off := by omega
          have h4 : ¬ M - x.off < x.len := by omega
          clear hbad h0
          go_wp2_with (at_builtin; refine halt_in ?_)
          refine Halted.out (wpList_append_run rfl _ _ _ _ rfl rfl rfl hap0 ?_)
          clear hap0
          go_wp2_with (at_builtin; refine halt_in ?_)
          refine Halted.out (wpList_append_run rfl _ _ _ _ rfl rfl rfl hap5 ?_)
          clear hap5
          go_wp2_with fail
          go_roundw
          case rel => exact ⟨i+1, _, by go_num, by omega, R5.out.1, hkey5.out, fun y hy => (mem_take_snoc HR.out hy).elim (HALL.out y) (fun e => e ▸ HGO.out), R5.out.2.1, R5.out.2.2⟩
          case measure => simp [intOf]; omega
        · have h0i : ((x.n : Int) == 0) = false := by simpa using h0
          clear hbad h0
          go_wp2_with (at_builtin; refine halt_in ?_)
          refine Halted.out (wpList_append_run rfl _ _ _ _ rfl rfl rfl hap0 ?_)
          clear hap0
          go_wp2_with (at_builtin; refine halt_in ?_)
          refine Halted.out (wpList_append_run rfl _ _ _ _ rfl rfl rfl hap5 ?_)
          clear hap5
          go_wp2_with fail
          go_roundw
          case rel => exact ⟨i+1, _, by go_num, by omega, R5.out.1, hkey5.out, fun y hy => (mem_take_snoc HR.out hy).elim (HALL.out y) (fun e => e ▸ HGO.out), R5.out.2.1, R5.out.2.2⟩
          case measure => simp [intOf]; omega
    · obtain rfl : i = n := by omega
      clear hi hz0 hz1 hz2 ji jz0 jz1 jz2
      go_wp2_with fail
      go_ret2
      have hlen := HL.out
      have h3 := HALL.out
      have h4 := HKE.out
      rw [List.take_of_length_le (by omega)] at h3 h4
      exact ⟨.inl ⟨h3, _, _, rfl, HOW.out, h4, HDA.out⟩, HB.out⟩
end Go.Proofs.YtlndiddplfoceaaDoor
