import Derived.Shelf.SlIter.Nil
import Derived.Shelf.SortM.Plain
import Derived.Shelf.SortM.SortNone
import Derived.Ground.GgzProg
import Derived.Ground.SlgmProg
import Derived.Test.YthkjnpbbgfagkaaDoorRows
import Derived.Test.YthkjnpbbgfagkaaDoorBase
set_option linter.unusedVariables false
set_option linter.unusedSimpArgs false
namespace Go.Proofs.YthkjnpbbgfagkaaDoor
open Go.RowKit Go.Maps Go.Sort Go.Shelf

/-! The library's maps.Keys, slices.Sorted and slices.Sort at this program: the kit's contracts, laid. -/
def sorted37Ren : Shelf.Ren := { f := fun x => match x with | 6 => 37 | 8 => 50 | 9 => 51 | 11 => 56 | 13 => 58 | 12 => 57 | 23 => 68 | 24 => 69 | 14 => 59 | 15 => 60 | 16 => 61 | 17 => 62 | 18 => 63 | 19 => 64 | 20 => 65 | 21 => 66 | 22 => 67 | 25 => 70 | 26 => 71 | 27 => 72 | 28 => 73 | 29 => 74 | 30 => 75 | 31 => 76 | n => n, t := fun x => match x with | 26 => 9 | 28 => 68 | 24 => 65 | 0 => 0 | 3 => 3 | 37 => 74 | 48 => 48 | 50 => 101 | 4 => 4 | 40 => 92 | 39 => 91 | 45 => 97 | 5 => 5 | 9 => 9 | 51 => 102 | 55 => 106 | 57 => 108 | 58 => 109 | 33 => 83 | n => n, g := fun x => x }
theorem sorted37Lays : SlLaysZ.n6 Tryd.prog sorted37Ren := { mixed := by kernel_rfl, f6 := ⟨_, by decide, Tryd.func37⟩, f8 := ⟨_, by decide, Tryd.func50⟩, f11 := ⟨_, by decide, Tryd.func56⟩, t0 := Tryd.underlying0, a0 := Tryd.isAgg0, z0 := Tryd.sizeOf0, v0 := Tryd.zeroValue0, t24 := Tryd.underlying65, a24 := Tryd.isAgg65, z24 := Tryd.sizeOf65, v24 := Tryd.zeroValue65, t26 := Tryd.underlying9, a26 := Tryd.isAgg9, z26 := Tryd.sizeOf9, v26 := Tryd.zeroValue9, t28 := Tryd.underlying68, a28 := Tryd.isAgg68, z28 := Tryd.sizeOf68, v28 := Tryd.zeroValue68, i26 := by kernel_rfl }
def sort51Ren : Shelf.Ren := { f := fun x => match x with | 6 => 51 | 8 => 58 | 9 => 57 | 19 => 68 | 20 => 69 | 21 => 59 | 22 => 60 | 23 => 61 | 24 => 62 | 25 => 63 | 26 => 64 | 27 => 65 | 28 => 66 | 29 => 67 | 36 => 70 | 31 => 71 | 32 => 72 | 37 => 73 | 38 => 74 | 39 => 75 | 41 => 76 | n => n, t := fun x => match x with | 27 => 65 | 29 => 9 | 3 => 3 | 32 => 74 | 26 => 65 | 0 => 0 | 44 => 48 | 46 => 101 | 4 => 4 | 36 => 92 | 35 => 91 | 41 => 97 | 5 => 5 | 9 => 9 | 53 => 102 | 57 => 106 | 63 => 108 | 64 => 109 | n => n, g := fun x => x }
theorem sort51Lays : SlLaysM.n6 Tryd.prog sort51Ren := { mixed := by kernel_rfl, f8 := Tryd.func58, f19 := Tryd.func68, f20 := Tryd.func69, f31 := Tryd.func71, f32 := Tryd.func72, f6 := ⟨_, by decide, Tryd.func51⟩, f9 := ⟨_, by decide, Tryd.func57⟩, f21 := ⟨_, by decide, Tryd.func59⟩, f22 := ⟨_, by decide, Tryd.func60⟩, f23 := ⟨_, by decide, Tryd.func61⟩, f24 := ⟨_, by decide, Tryd.func62⟩, f25 := ⟨_, by decide, Tryd.func63⟩, f26 := ⟨_, by decide, Tryd.func64⟩, f27 := ⟨_, by decide, Tryd.func65⟩, f28 := ⟨_, by decide, Tryd.func66⟩, f29 := ⟨_, by decide, Tryd.func67⟩, f36 := ⟨_, by decide, Tryd.func70⟩, f37 := ⟨_, by decide, Tryd.func73⟩, f38 := ⟨_, by decide, Tryd.func74⟩, f39 := ⟨_, by decide, Tryd.func75⟩, f41 := ⟨_, by decide, Tryd.func76⟩, t0 := Tryd.underlying0, a0 := Tryd.isAgg0, z0 := Tryd.sizeOf0, v0 := Tryd.zeroValue0, t3 := Tryd.underlying3, a3 := Tryd.isAgg3, z3 := Tryd.sizeOf3, v3 := Tryd.zeroValue3, t4 := Tryd.underlying4, a4 := Tryd.isAgg4, z4 := Tryd.sizeOf4, v4 := Tryd.zeroValue4, t5 := Tryd.underlying5, a5 := Tryd.isAgg5, z5 := Tryd.sizeOf5, v5 := Tryd.zeroValue5, t9 := Tryd.underlying9, a9 := Tryd.isAgg9, z9 := Tryd.sizeOf9, v9 := Tryd.zeroValue9, t26 := Tryd.underlying65, a26 := Tryd.isAgg65, z26 := Tryd.sizeOf65, v26 := Tryd.zeroValue65, t27 := Tryd.underlying65, a27 := Tryd.isAgg65, z27 := Tryd.sizeOf65, v27 := Tryd.zeroValue65, t29 := Tryd.underlying9, a29 := Tryd.isAgg9, z29 := Tryd.sizeOf9, v29 := Tryd.zeroValue9, t32 := Tryd.underlying74, a32 := Tryd.isAgg74, z32 := Tryd.sizeOf74, v32 := Tryd.zeroValue74, t35 := Tryd.underlying91, a35 := Tryd.isAgg91, z35 := Tryd.sizeOf91, v35 := Tryd.zeroValue91, t36 := Tryd.underlying92, a36 := Tryd.isAgg92, z36 := Tryd.sizeOf92, v36 := Tryd.zeroValue92, t41 := Tryd.underlying97, a41 := Tryd.isAgg97, z41 := Tryd.sizeOf97, v41 := Tryd.zeroValue97, t44 := Tryd.underlying48, a44 := Tryd.isAgg48, z44 := Tryd.sizeOf48, v44 := Tryd.zeroValue48, t46 := Tryd.underlying101, a46 := Tryd.isAgg101, z46 := Tryd.sizeOf101, v46 := Tryd.zeroValue101, t53 := Tryd.underlying102, a53 := Tryd.isAgg102, z53 := Tryd.sizeOf102, v53 := Tryd.zeroValue102, t57 := Tryd.underlying106, a57 := Tryd.isAgg106, z57 := Tryd.sizeOf106, v57 := Tryd.zeroValue106, t63 := Tryd.underlying108, a63 := Tryd.isAgg108, z63 := Tryd.sizeOf108, v63 := Tryd.zeroValue108, t64 := Tryd.underlying109, a64 := Tryd.isAgg109, z64 := Tryd.sizeOf109, v64 := Tryd.zeroValue109 }
def keys38Ren : Shelf.Ren := { f := fun x => match x with | 7 => 38 | 10 => 52 | n => n, t := fun x => match x with | 23 => 63 | 26 => 9 | 3 => 31 | 28 => 68 | 0 => 0 | 27 => 67 | 33 => 83 | 4 => 4 | n => n, g := fun x => x }
theorem keys38Lays : SlLaysZ.n7 Tryd.prog keys38Ren := { mixed := by kernel_rfl, f7 := ⟨_, by decide, Tryd.func38⟩, f10 := ⟨_, by decide, Tryd.func52⟩, t0 := Tryd.underlying0, a0 := Tryd.isAgg0, z0 := Tryd.sizeOf0, v0 := Tryd.zeroValue0, t4 := Tryd.underlying4, a4 := Tryd.isAgg4, z4 := Tryd.sizeOf4, v4 := Tryd.zeroValue4, t23 := Tryd.underlying63, a23 := Tryd.isAgg63, z23 := Tryd.sizeOf63, v23 := Tryd.zeroValue63, t26 := Tryd.underlying9, a26 := Tryd.isAgg9, z26 := Tryd.sizeOf9, v26 := Tryd.zeroValue9, t27 := Tryd.underlying67, a27 := Tryd.isAgg67, z27 := Tryd.sizeOf67, v27 := Tryd.zeroValue67, t28 := Tryd.underlying68, a28 := Tryd.isAgg68, z28 := Tryd.sizeOf68, v28 := Tryd.zeroValue68, t33 := Tryd.underlying83, a33 := Tryd.isAgg83, z33 := Tryd.sizeOf83, v33 := Tryd.zeroValue83 }

theorem sorts37 (m : Nat) : AnyZ.SortsIn Tryd.prog sorted37Ren Fence.wide m :=
  ⟨fun blk off cap ss W hH hblk hsz => callsIn_wide.2 (AnyM.slices_Sort_string sort51Lays blk off cap ss W hH hblk hsz),
   fun p cap W => callsIn_wide.2 (AnyM.slices_Sort_string_none sort51Lays p cap W)⟩

theorem maps_Keys_38 (mb : Option Nat) (W : World) : CallsIn Fence.wide 5 Tryd.prog 38 #[.map mb] W fun e w' => e = .returned (.func (.func 52) #[] #[.pointer (some ⟨W.heap.size, 0, none⟩)]) ∧ w' = W.alloc (.cells #[.map mb] 63) :=
  AnyZ.keys_in keys38Lays Fence.wide 5 trivial rfl mb W

set_option maxHeartbeats 1000000 in
theorem slices_Sorted_keys_37_38 {H : Type} (b nn : Nat) (D0 : DataW H) (R : Value → Option (DataW H × List MemPlace)) (w : World) (hown : w.ownsMap Tryd.prog 9 R b nn D0) (hmax : Maps.size D0 ≤ maxLen) (hbytes : Maps.size D0 * 16 ≤ 140737488355328) :
    CallsIn Fence.wide 5 Tryd.prog 37 #[.func (.func 52) #[] #[.pointer (some ⟨w.heap.size, 0, none⟩)]] (w.alloc (.cells #[.map (some b)] 63)) fun e w' => ∃ (v : Value) (ss : List (List UInt8)), e = .returned v ∧ ss.Perm (strKeys D0) ∧
      w'.ownsRow (w.alloc (.cells #[.map (some b)] 63)).heap.size 9 1 v ss.length ((ss.mergeSort (fun x y => decide (x ≤ y))).map encStr) ∧ (v = .slice none 0 0 ↔ ss = []) ∧ Below (w.alloc (.cells #[.map (some b)] 63)).heap.size (w.alloc (.cells #[.map (some b)] 63)) w' := by
  have hbl := hown.lt
  have hseq : SeqGives Fence.wide 2 Tryd.prog 52 #[.pointer (some ⟨w.heap.size, 0, none⟩)] encStr (fun ss => ss.Perm (strKeys D0)) (Maps.size D0) (w.alloc (.cells #[.map (some b)] 63)) :=
    AnyZ.keys_gives (ρ := keys38Ren) { keys38Lays with } Fence.wide _ trivial rfl (by omega) w.heap.size b nn D0 _ (by simp) (by simp) (by
      obtain ⟨es, clock, hb, Ft, hs, hD⟩ := hown
      exact ⟨es, clock, (Below.heap_alloc _ _ b hbl).trans hb, Ft, hs, hD⟩)
  exact AnyZ.sorted_in sorted37Lays Fence.wide 5 trivial trivial trivial trivial rfl (by omega) (sorts37 _) (enters_of Tryd.func51 (by kernel_rfl) rfl) 52 #[.pointer (some ⟨w.heap.size, 0, none⟩)] trivial (enters_of Tryd.func52 (by kernel_rfl) rfl) _ _ hmax hbytes _ hseq

set_option maxHeartbeats 1000000 in
theorem slices_Sorted_keys_nil_37_38 (w : World) :
    CallsIn Fence.wide 5 Tryd.prog 37 #[.func (.func 52) #[] #[.pointer (some ⟨w.heap.size, 0, none⟩)]] (w.alloc (.cells #[.map none] 63)) fun e w' => ∃ (v : Value) (ss : List (List UInt8)), e = .returned v ∧ ss = [] ∧
      w'.ownsRow (w.alloc (.cells #[.map none] 63)).heap.size 9 1 v ss.length ((ss.mergeSort (fun x y => decide (x ≤ y))).map encStr) ∧ (v = .slice none 0 0 ↔ ss = []) ∧ Below (w.alloc (.cells #[.map none] 63)).heap.size (w.alloc (.cells #[.map none] 63)) w' := by
  have hseq : SeqGives Fence.wide 2 Tryd.prog 52 #[.pointer (some ⟨w.heap.size, 0, none⟩)] encStr (fun ss : List (List UInt8) => ss = []) 0 (w.alloc (.cells #[.map none] 63)) :=
    AnyZ.keys_gives_nil (ρ := keys38Ren) { keys38Lays with } Fence.wide _ trivial rfl w.heap.size _ (by simp) (by simp)
  exact AnyZ.sorted_in sorted37Lays Fence.wide 5 trivial trivial trivial trivial rfl (by omega) (sorts37 _) (enters_of Tryd.func51 (by kernel_rfl) rfl) 52 #[.pointer (some ⟨w.heap.size, 0, none⟩)] trivial (enters_of Tryd.func52 (by kernel_rfl) rfl) _ 0 (Nat.zero_le _) (by omega) _ hseq


end Go.Proofs.YthkjnpbbgfagkaaDoor
