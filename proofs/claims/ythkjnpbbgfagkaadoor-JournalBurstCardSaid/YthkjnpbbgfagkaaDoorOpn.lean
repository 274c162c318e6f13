import Derived.Test.YthkjnpbbgfagkaaDoorMapR
set_option linter.unusedVariables false
set_option linter.unusedSimpArgs false
namespace Go.Proofs.YthkjnpbbgfagkaaDoor
open Go.RowKit Go.Maps

theorem MOwn.below {w w1 : World} {b n : Nat} {D : DataW Unit} (h : MOwn w b n D) (hb : Below w.heap.size w w1) : MOwn w1 b n D := by
  have hlt := World.ownsMap.lt h
  obtain ⟨es, clock, h1, h2⟩ := h
  exact ⟨es, clock, (hb.block b hlt).trans h1, h2⟩
theorem openL_take {l : List Rec} {i : Nat} {r : Rec} (h : l[i]? = some r) : openL (l.take (i+1)) = openStep (openL (l.take i)) r := by
  rw [take_snoc h, openL_snoc]

theorem step_one {acc : List Rec} {r : Rec} (hm : May r) (h1 : r.kind = 1) (q : List UInt8) : getP (openStep acc r) q = if q = r.path.data.toList then some r else getP acc q := by
  unfold openStep
  rw [if_neg (not_not_intro hm), if_neg (by omega), if_pos h1, getP_insK _ _ _ (fun x hx => wout_ne x hx), getP_wout]
  show (if q = ky r then _ else _) = if q = ky r then _ else _
  split
  · rfl
  · rename_i h; exact if_neg h
theorem step_two {acc : List Rec} {r x : Rec} (hm : May r) (h1 : r.kind = 2) (hg : getP acc r.path.data.toList = some x) (q : List UInt8) : getP (openStep acc r) q = if q = r.path.data.toList then some { x with num := r.num } else getP acc q := by
  unfold openStep
  rw [if_neg (not_not_intro hm), if_pos h1, getP_setN]
  split
  · rename_i h; rw [h, hg]; rfl
  · rfl
theorem step_end {acc : List Rec} {r : Rec} (hm : May r) (h1 : r.kind ≠ 1) (h2 : r.kind ≠ 2) (q : List UInt8) : getP (openStep acc r) q = if q = r.path.data.toList then none else getP acc q := by
  unfold openStep
  rw [if_neg (not_not_intro hm), if_neg h2, if_neg h1, getP_wout]
theorem step_not {acc : List Rec} {r : Rec} (h : May r → r.kind ≠ 1 ∧ getP acc r.path.data.toList = none) (q : List UInt8) : getP (openStep acc r) q = getP acc q := by
  unfold openStep
  split
  · rfl
  · rename_i hm
    obtain ⟨h1, h2⟩ := h (Decidable.not_not.1 hm)
    split
    · rw [setN_none _ h2]
    · rw [getP_wout]
      split
      · rename_i h; rw [h, h2]
      · rfl

theorem encStr_ky (r : Rec) : encStr (ky r) = .string r.path := by simp [encStr, ky]
theorem Sl.keyAt {w : World} {A : Option Addr} {n : Nat} {acc : List Rec} (h : Sl 1 w A n ((acc.map ky).map encStr)) {j : Nat} (hj : j < n) : ∃ b o r, A = some ⟨b, o, none⟩ ∧ acc[j]? = some r ∧ w.cell? ⟨b, o + j, none⟩ = some (.string r.path) := by
  have hl : acc.length = n := by have := h.len; simpa using this
  have hg : ((acc.map ky).map encStr)[j]? = some (.string acc[j].path) := by
    rw [← encStr_ky]; simp [List.getElem?_eq_getElem (show j < acc.length by omega)]
  rcases h.at_ with h0 | ⟨b, o, rfl, hc⟩
  · rw [h0] at hg; simp at hg
  · exact ⟨b, o, acc[j], rfl, List.getElem?_eq_getElem (by omega), hc j _ hg⟩
/-- One round's way through the switch: what it hands on. -/
def OpnRel (w : World) (n : Nat) (l : List Rec) (a : Value) (wr : World) : Prop := ∃ (i : Nat) (D : DataW Unit), a = .int .i64 i ∧ i ≤ n ∧ MOwn wr w.heap.size i D ∧ MRel D (openL (l.take i)) ∧ Below w.heap.size w wr

set_option maxRecDepth 100000 in
set_option maxHeartbeats 4000000 in
theorem Opn_any (A : Option Addr) (n c : Nat) (l : List Rec) (w : World) (hs : Sl 4 w A n (encs l)) (hn : n ≤ 1099511627776) :
    Calls Tryd.prog 19 #[.slice A n c] w fun e w' => ∃ v, e = .returned v ∧ w'.ownsRow w.heap.size 31 4 v (openL l).length (encs (openL l)) ∧ Below w.heap.size w w' := by
  have HL := Lib.hid hs.recs
  go_enter Tryd.func19, Tryd.ntmps19
  have hmm := @run_makeMap Tryd.prog
  go_wp2_with fail
  clear hmm
  go_loopw [14] (fun a wr => OpnRel w n l a wr) (fun a _ => n - (intOf a).toNat)
  case atStart => exact ⟨0, _, rfl, by omega, World.ownsMap_made w _ _ _, MRel_nil, (Below.refl _ _).alloc (Nat.le_refl _) _⟩
  case round => 
    obtain ⟨i, D, rfl, hin, hown, hrel, hb⟩ := hrel
    rcases Nat.lt_or_ge i n with h | h
    · obtain ⟨b, o, k, p, m, s, rfl, hr, c0, c1, c2, c3⟩ := (hs.below hb).row4 h
      have hst := openL_take hr
      generalize openL (l.take i) = acc at hrel hst
      have HST := Lib.hid hst
      clear hst hr
      by_cases hm : May ⟨k, p, m, s⟩
      · have hmr : mayR ⟨k, p, m, s⟩ = true := decide_eq_true hm
        have HM := Lib.hid hmr
        clear hmr
        have hps : p.size ≤ maxLen := by have := hm.2.2.2.1; simp only at this; unfold maxLen; omega
        go_wp2_with fail
        refine (may_any ⟨k, p, m, s⟩ _).mono ?_
        rintro e w1 ⟨rfl, hb1⟩
        rw [HM.out]
        obtain ⟨y0, y1, y2, y3⟩ := (Box4.mk_alloc wr ⟨k, p, m, s⟩ 31).below hb1
        have hown1 := MOwn.below (World.ownsMap.alloc hown (.cells (encR ⟨k, p, m, s⟩).toArray 31)) hb1
        have hsz : wr.heap.size < w1.heap.size := by have := hb1.size; rw [World.size_alloc] at this; omega
        have hbX : Below w.heap.size w w1 := (hb.alloc hb.size _).trans (hb1.mono (by rw [World.size_alloc]; have := hb.size; omega))
        have hml := World.ownsMap.lt hown
        have hlook := MOwn.look hown1 hrel hps
        have HI := Lib.hid (World.ownsMap.isMap hown)
        clear hown hb1 c0 c1 c2 c3
        generalize hG : getP acc p.data.toList = G at hlook
        have HG := Lib.hid hG
        clear hG
        have HBX := Lib.hid hbX
        clear hbX
        simp only [encR] at y0 y1 y2 y3
        by_cases hk1 : k = 1
        · subst hk1
          obtain ⟨w2, hup, hown2, hg2⟩ := MOwn.put (World.ownsMap.alloc hown1 (.cells (encR (G.getD zeroRec)).toArray 31)) (by unfold maxLen; omega) hps ⟨1, p, m, s⟩
          simp only [encR] at hup hlook
          have HO2 := Lib.hid hown2
          have HG2 := Lib.hid hg2
          clear hown2 hg2 hown1
          go_wp2_with fail
          go_roundw
          case rel => exact ⟨i+1, _, by go_num, by omega, HO2.out, by rw [HST.out]; exact hrel.put HI.out (fun q => step_one hm rfl q), (HBX.out.alloc HBX.out.size _).grown HG2.out (by rw [World.size_alloc]; have := HBX.out.size; omega) (fun k hk => by cases hk; exact Nat.le_refl _)⟩
          case measure => simp [intOf]; omega
        · rcases G with _ | ⟨k', p', m', s'⟩
          · simp only [encR, Option.getD_none, Option.isSome_none, zeroRec] at hlook
            have HO2 := Lib.hid (World.ownsMap.alloc hown1 (.cells (encR zeroRec).toArray 31))
            clear hown1
            go_wp2_with fail
            go_roundw
            case rel => exact ⟨i+1, _, by go_num, by omega, World.ownsMap.mono HO2.out (by omega), by rw [HST.out]; exact hrel.same (step_not fun _ => ⟨hk1, HG.out⟩), HBX.out.alloc HBX.out.size _⟩
            case measure => simp [intOf]; omega
          · simp only [encR, Option.getD_some, Option.isSome_some] at hlook
            have hown2 := World.ownsMap.alloc hown1 (.cells (encR ⟨k', p', m', s'⟩).toArray 31)
            by_cases hk2 : k = 2
            · subst hk2
              have hown3 := World.ownsMap.alloc hown1 (.cells (encR ⟨k', p', m, s'⟩).toArray 31)
              obtain ⟨w2, hup, hown4, hg2⟩ := MOwn.put hown3 (by unfold maxLen; omega) hps ⟨k', p', m, s'⟩
              simp only [encR] at hup
              have HO2 := Lib.hid hown4
              have HG2 := Lib.hid hg2
              clear hown1 hown2 hown3 hown4 hg2
              go_wp2_with fail
              go_roundw
              case rel => exact ⟨i+1, _, by go_num, by omega, HO2.out, by rw [HST.out]; exact hrel.put HI.out (fun q => step_two hm rfl HG.out q), (HBX.out.alloc HBX.out.size _).grown HG2.out (by rw [World.size_alloc]; have := HBX.out.size; omega) (fun k hk => by cases hk; exact Nat.le_refl _)⟩
              case measure => simp [intOf]; omega
            · obtain ⟨w2, hup, hown4, hg2⟩ := MOwn.del hown2 hps 0
              simp only [encR] at hup
              have HO2 := Lib.hid hown4
              have HG2 := Lib.hid hg2
              clear hown1 hown2 hown4 hg2
              go_wp2_with fail
              go_roundw
              case rel => exact ⟨i+1, _, by go_num, by omega, World.ownsMap.mono HO2.out (by omega), by rw [HST.out]; exact hrel.del (fun q => step_end hm hk1 hk2 q), (HBX.out.alloc HBX.out.size _).grown HG2.out (by rw [World.size_alloc]; have := HBX.out.size; omega) (fun k hk => by cases hk; exact Nat.le_refl _)⟩
              case measure => simp [intOf]; omega
      · have hmr : mayR ⟨k, p, m, s⟩ = false := decide_eq_false hm
        have HM := Lib.hid hmr
        clear hmr
        go_wp2_with fail
        refine (may_any ⟨k, p, m, s⟩ _).mono ?_
        rintro e w1 ⟨rfl, hb1⟩
        rw [HM.out]
        have HO2 := Lib.hid (MOwn.below (World.ownsMap.alloc hown (.cells (encR ⟨k, p, m, s⟩).toArray 31)) hb1)
        have HBX := Lib.hid (show Below w.heap.size w w1 from (hb.alloc hb.size _).trans (hb1.mono (by rw [World.size_alloc]; have := hb.size; omega)))
        clear hown hb1
        go_wp2_with fail
        go_roundw
        case rel => exact ⟨i+1, _, by go_num, by omega, World.ownsMap.mono HO2.out (by omega), by rw [HST.out]; exact hrel.same (step_not fun h => absurd h hm), HBX.out⟩
        case measure => simp [intOf]; omega
    · obtain rfl : i = n := by omega
      have htk : l.take i = l := List.take_of_length_le (by have := HL.out; omega)
      rw [htk] at hrel
      clear htk
      have hsz := World.ownsMap.size_le hown
      go_wp2_with fail
      refine (callsIn_wide.1 (maps_Keys_38 (some w.heap.size) wr)).mono ?_
      rintro e w1 ⟨rfl, rfl⟩
      go_wp2_with fail
      refine (callsIn_wide.1 (slices_Sorted_keys_37_38 w.heap.size i D RR wr hown (by unfold maxLen; omega) (by omega))).mono ?_
      rintro e w2 ⟨v, ss, rfl, hS, hrow, hnil, hb2⟩
      have hkeys := MOwn.keys hown hrel (openL_srt l) hS
      have hss : ss.length = (openL l).length := by
        have := congrArg List.length hkeys
        simpa using this
      have hacc := openL_len l
      have hsrt := openL_srt l
      have hopn := openL_opn l
      generalize hA : openL l = acc at hrel hkeys hss hacc hsrt hopn
      have HA := Lib.hid hA
      clear hA
      rw [hkeys, hss] at hrow
      obtain ⟨A2, k2, rfl, hk2, hsk, _, _⟩ := own_sl hrow
      have hown2 := MOwn.below (World.ownsMap.alloc hown (.cells #[.map (some w.heap.size)] 63)) hb2
      have hbX : Below w.heap.size w w2 := (hb.alloc hb.size _).trans (hb2.mono (by rw [World.size_alloc]; have := hb.size; omega))
      have hmm : acc.length ≤ i := by have := HL.out; omega
      have hMR := Lib.hid hrel
      clear hrel
      have HBX := Lib.hid hbX
      have HSS := Lib.hid hss
      clear hnil hkeys hrow hb2 hS hown hb hs hbX hss hacc HL
      obtain ⟨i0, hi, hz0, hz1, hz2⟩ := info_parts info31
      go_wp2_with fail
      go_loopw [8, 58] (fun v a wq => ∃ j : Nat, a = .int .i64 j ∧ j ≤ acc.length ∧ wq.ownsRow w2.heap.size 31 4 v j (encs (acc.take j)) ∧ Below w2.heap.size w2 wq) (fun _ a _ => acc.length - (intOf a).toNat)
      case atStart => exact ⟨0, rfl, by omega, World.ownsRow_nil _ _ _ _, Below.refl _ _⟩
      case round =>
        obtain ⟨j, rfl, hjn, hout, hbq⟩ := hrel
        rcases Nat.lt_or_ge j acc.length with h2 | h2
        · obtain ⟨b, o, r, rfl, hr, hcell⟩ := (hsk.below hbq).keyAt h2
          have hmem := List.mem_of_getElem? hr
          have hps : r.path.size ≤ maxLen := by have := (hopn r hmem).2.2.1; unfold maxLen; omega
          have hlook := MOwn.look1 (MOwn.below hown2 hbq) hMR.out hps
          rw [show r.path.data.toList = ky r from rfl, getP_of_mem hsrt hmem] at hlook
          obtain ⟨v3, w3, hap3, hown3, _, hb3⟩ := run_append_one (P := Tryd.prog) (w0 := w2) w2.heap.size 32 32 31 i0 _ 4 48 Tryd.underlying32 hi hz0 hz1 hz2 rfl (by decide) hout hbq (encR r) rfl (encR_one _) 1 (by omega) (by omega) hbq.size
          rw [← encs_snoc, ← take_snoc hr] at hown3
          have HO3 := Lib.hid hown3
          have HB3 := Lib.hid hb3
          obtain ⟨k, p, m, s⟩ := r
          simp only [encR, World.size_alloc, Option.getD_some] at hap3 hlook hcell ⊢
          clear hown3 hb3 hout hbq hi hz0 hz1 hz2 hmem hr
          go_wp2_with (at_builtin; refine halt_in ?_)
          refine Halted.out (wpList_append_run rfl _ _ _ _ rfl rfl rfl hap3 ?_)
          clear hap3
          go_wp2_with fail
          go_roundw
          case rel => exact ⟨j+1, by go_num, by omega, HO3.out, HB3.out⟩
          case measure => simp [intOf]; omega
        · obtain rfl : j = acc.length := by omega
          have HO := Lib.hid hout
          have HB := Lib.hid hbq
          clear hout hbq
          go_wp2_with fail
          go_ret
          refine ⟨_, rfl, ?_, HBX.out.trans (HB.out.mono HBX.out.size)⟩
          have h3 := own_base_mono HO.out HBX.out.size
          rw [List.take_length] at h3
          rw [HA.out]; exact h3
end Go.Proofs.YthkjnpbbgfagkaaDoor
