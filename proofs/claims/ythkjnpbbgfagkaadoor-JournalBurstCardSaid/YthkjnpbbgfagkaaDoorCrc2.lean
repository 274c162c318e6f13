import Derived.Test.YthkjnpbbgfagkaaDoorCrc
set_option linter.unusedVariables false
set_option linter.unusedSimpArgs false
namespace Go.Proofs.YthkjnpbbgfagkaaDoor
open Go.RowKit

set_option maxRecDepth 100000 in
set_option maxHeartbeats 400000 in
theorem ROf_one (A : Option Addr) (n c : Nat) (bs : List UInt8) (g cp : Nat) (w : World) (hs : Sl 1 w A n (bys bs)) (hn : n ≤ 1099511627776) (hg : w.cell? ⟨g, 0, none⟩ = some (.slice A n c)) :
    Calls Tryd.prog 45 #[.slice (some ⟨g, 0, none⟩) 1 cp] w fun e w' => e = .returned (.int .u32 (crcOf bs)) ∧ w = w' := by
  have hl : bs.length = n := by have := hs.len; simpa [bys] using this
  go_enter Tryd.func45, Tryd.ntmps45
  go_wp2_with fail
  refine wp_loop_rounds 2 ?_
  rw [rounds_succ]
  go_wp2_with fail
  go_loop [3, 5] (fun a i => ∃ k W : Nat, a = .int .u32 W ∧ i = .int .i64 k ∧ k ≤ n ∧ W < 4294967296 ∧ W = crcL 4294967295 (bs.take k)) (fun _ i => n - (intOf i).toNat)
  case atStart => exact ⟨0, 4294967295, rfl, rfl, by omega, by decide, rfl⟩
  case round =>
    obtain ⟨k, W, rfl, rfl, hk, hW, heq⟩ := hrel
    have HE := Lib.hid heq
    clear heq
    by_cases h : k < n
    · obtain ⟨b, o, rfl, hk2, hcell, _⟩ := hs.byte h
      have htk : bs.take (k + 1) = bs.take k ++ [bs[k]] := by rw [List.take_succ_eq_append_getElem hk2]
      have HTK := Lib.hid htk
      clear htk
      generalize bs[k] = cb at *
      have hcb : cb.toNat < 256 := cb.toNat_lt
      have hx1 := u32_xor_nat W cb.toNat hW (by omega)
      have hX := xor_lt32 hW (show cb.toNat < 4294967296 by omega)
      have hfin : crcB W cb.toNat = shN 8 (W ^^^ cb.toNat) := crcB_eq _ _
      have HFN := Lib.hid hfin
      clear hfin
      generalize W ^^^ cb.toNat = X at *
      go_wp2_with fail
      refine (Shift_any X 8 _ hX (by omega)).mono ?_
      rintro e w1 ⟨rfl, rfl⟩
      go_wp2_with fail
      go_round
      case rel => exact ⟨k + 1, shN 8 X, rfl, by go_num, by omega, by rw [← HFN.out]; exact crcB_lt hW hcb, by rw [HTK.out, crcL_snoc, ← HE.out, HFN.out]⟩
      case measure => simp [intOf]; omega
    · go_wp2_with fail
      rw [rounds_succ]
      go_wp2_with fail
      go_ret
      obtain rfl : k = n := by omega
      refine ⟨?_, rfl⟩
      have e1 : crcL 4294967295 bs = W := by rw [HE.out, List.take_of_length_le (by omega)]
      rw [crcOf, e1]
      have e2 : ((4294967295 - W : Nat) : Int) = 4294967295 - (W : Int) := by omega
      rw [e2]; rfl

set_option maxRecDepth 100000 in
set_option maxHeartbeats 400000 in
theorem seal_any (A : Option Addr) (n c : Nat) (bs : List UInt8) (w : World) (hs : Sl 1 w A n (bys bs)) (hn : n ≤ 1099511627776) (ht : Tab w) (h0 : 0 < w.heap.size) :
    Calls Tryd.prog 40 #[.slice A n c] w fun e w' => e = .returned (.agg (bys (sealB (crcOf bs))).toArray) ∧ Below w.heap.size w w' := by
  have hT : ∀ o1 o2, Tab ((w.alloc o1).alloc o2) := fun o1 o2 i hi => by
    rw [World.cell?_alloc_lt _ _ _ (by rw [World.size_alloc]; show 0 < w.heap.size + 1; omega), World.cell?_alloc_lt _ _ _ h0]; exact ht i hi
  have hb : ∀ o1 o2, Below w.heap.size w ((w.alloc o1).alloc o2) := fun o1 o2 => ((Below.refl _ _).alloc (Nat.le_refl _) _).alloc (by rw [World.size_alloc]; omega) _
  have hX := crcOf_lt bs
  go_enter Tryd.func40, Tryd.ntmps40
  go_wp2_with fail
  refine (Of_one A n c bs _ _ _ (hs.below (hb _ _)) hn ?_ (hT _ _)).mono ?_
  · rw [World.cell?_alloc_at _ _ _ _ (by simp)]; rfl
  rintro e w1 ⟨rfl, rfl⟩
  have hs4 : sealB (crcOf bs) = [UInt8.ofNat (crcOf bs), UInt8.ofNat (crcOf bs / 256), UInt8.ofNat (crcOf bs / 65536), UInt8.ofNat (crcOf bs / 16777216)] := rfl
  have HS4 := Lib.hid hs4
  clear hs4 ht hs
  generalize hX2 : crcOf bs = X at *
  have HX2 := Lib.hid hX2
  clear hX2
  go_wp2_with fail
  refine bodyPost_ret (results_cell_row rfl _ _ w.heap.size 71 _ _ _ rfl (heap_alloc2_old _ _ _) Tryd.underlying71 rfl (by kernel_rfl)) rfl ⟨?_, hb _ _⟩
  have e : (bys (sealB (crcOf bs))).toArray = #[.int .u8 ((X : Int) % 256), .int .u8 ((X : Int) / 256 % 256), .int .u8 ((X : Int) / 65536 % 256), .int .u8 ((X : Int) / 16777216)] := by
    rw [HX2.out, HS4.out]
    have e3 : (X : Int) / 16777216 = (X : Int) / 16777216 % 256 := by omega
    rw [e3]
    simp [bys, bv]
  rw [e]
end Go.Proofs.YthkjnpbbgfagkaaDoor
