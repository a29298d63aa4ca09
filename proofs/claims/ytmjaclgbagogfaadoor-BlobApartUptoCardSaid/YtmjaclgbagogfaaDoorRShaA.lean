/- What the reference's turn and constant do. -/
import Derived.Test.YtmjaclgbagogfaaDoorShaE
import Derived.Test.YtmjaclgbagogfaaDoorApp
import Derived.Shelf.SlSortCmp.QuietGrown
namespace Go.Proofs.YtmjaclgbagogfaaDoor
open Go.RowKit Go.Proofs.YtmjaclgbagogfaaDoor.Sha Go.Sort

set_option maxHeartbeats 400000 in
theorem turn_any (x : W32) (k : Int) (w : World) (h1 : 1 ≤ k) (h2 : k ≤ 31) :
    Calls Tryd.prog 24 #[U x, .int .u64 k] w fun e w' => e = .returned (U (rotr x k.toNat)) ∧ w = w' := by
  obtain ⟨n, rfl⟩ : ∃ n : Nat, k = (n : Int) := ⟨k.toNat, by omega⟩
  have hv := rot_val x n
  have Hv := Lib.hid hv
  have e1 : min n 32 = n := by omega
  have H1 := Lib.hid e1
  have n1 : 1 ≤ n := by omega
  have n2 : n ≤ 31 := by omega
  clear hv e1
  go_enter Tryd.func24, Tryd.ntmps24
  go_wp2
  go_ret
  refine ⟨ret_int ?_, rfl⟩
  rw [Int.toNat_natCast, ← Hv.out, IntKind.wrap_u32]
  have hc : bits .or .u32 ((x.toNat : Int) / 2 ^ n) ((x.toNat : Int) * 2 ^ (32 - n) % 4294967296) = bits .or .u32 ((x.toNat : Int) * 2 ^ (32 - n) % 4294967296) ((x.toNat : Int) / 2 ^ n) := by
    unfold bits; simp [BitVec.or_comm]
  exact hc

def kArr : Array Value := (K.map fun (n : Nat) => Value.int .u32 (n : Int)).toArray
theorem words_get (L : List Nat) (hb : ∀ x ∈ L, x < 4294967296) (k : Nat) (h : k < L.length) : (L.map fun (n : Nat) => Value.int .u32 (n : Int)).toArray[k]? = some (U (BitVec.ofNat 32 (L.getD k 0))) := by
  have h1 := hb L[k] (List.getElem_mem h)
  have h2 : L[k] % 4294967296 = L[k] := Nat.mod_eq_of_lt h1
  simp [h, BitVec.toNat_ofNat]
  omega
theorem kArr_get (k : Nat) (h : k < 64) : kArr[k]? = some (U (BitVec.ofNat 32 (K.getD k 0))) := words_get K (by decide) k h
theorem setRow_new (w : World) (cs cs' : Array Value) (t : TypeId) : (w.alloc (.cells cs t)).setRow w.heap.size cs' = w.alloc (.cells cs' t) := by
  unfold World.setRow World.alloc
  congr 1
  apply Array.ext_getElem?
  intro i
  rw [Array.getElem?_modify, Array.getElem?_push, Array.getElem?_push]
  by_cases h : w.heap.size = i
  · subst h; simp
  · rw [if_neg h]; by_cases h2 : i = w.heap.size
    · exact absurd h2.symm h
    · rw [if_neg h2]; simp [h2]
theorem word64_info : (Tryd.prog.info? 63).map (·.size) = some 64 := by kernel_rfl
theorem kArr_size : kArr.size = 64 := by decide
theorem kArr_one : kArr.all (·.oneCell') = true := by kernel_rfl
set_option maxRecDepth 100000 in
set_option maxHeartbeats 1000000 in
theorem const_any (k : Nat) (w : World) (h : k < 64) :
    Calls Tryd.prog 25 #[I k] w fun e w' => e = .returned (U (BitVec.ofNat 32 (K.getD k 0))) ∧ ∃ q os, w' = grow (w.drewN q) os := by
  have k0 : 0 ≤ (k : Int) := by omega
  have k64 : (k : Int) < 64 := by omega
  go_enter Tryd.func25, Tryd.ntmps25
  go_wp2_with (
      (refine wpList_store_row rfl 63 (.tmp 3) (.tmp 4) rfl w.heap.size kArr rfl rfl 63 _ (heap_alloc_new w _) word64_info rfl kArr_one ?_
       have hC := (Blk.new w 63 kArr).cell k
       rw [kArr_get k h] at hC
       generalize hWe : World.setRow _ _ _ = W
       have e3 : W = w.alloc (.cells kArr 63) := by rw [← hWe]; exact setRow_new w _ _ _
       have e2 : W = grow (w.drewN 0) #[.cells kArr 63] := by rw [e3, alloc_eq_grow]; rfl
       rw [← e3] at hC
       have E2 := Lib.hid e2
       clear hWe e2 e3))
  go_ret
  exact ⟨rfl, 0, _, E2.out⟩
end Go.Proofs.YtmjaclgbagogfaaDoor
