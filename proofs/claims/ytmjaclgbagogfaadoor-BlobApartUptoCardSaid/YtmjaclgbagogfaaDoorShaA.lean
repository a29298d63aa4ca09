/- What math/bits.RotateLeft32 and sha.New do. -/
import Derived.Test.YtmjaclgbagogfaaDoorProg
import Derived.Test.YtmjaclgbagogfaaDoorShaP
import Derived.Test.YtmjaclgbagogfaaDoorMem
namespace Go.Proofs.YtmjaclgbagogfaaDoor
open Go.RowKit Go.Proofs.YtmjaclgbagogfaaDoor.Sha

theorem rot_bits (n : Nat) (h1 : 1 ≤ n) (h2 : n ≤ 31) : bits .and .u64 (IntKind.u64.wrap (-(n : Int))) 31 = ((32 - n : Nat) : Int) := by
  have : ∀ n : Fin 32, 1 ≤ n.val → bits .and .u64 (IntKind.u64.wrap (-(n.val : Int))) 31 = ((32 - n.val : Nat) : Int) := by decide
  exact this ⟨n, by omega⟩ h1

theorem rot_val (x : W32) (n : Nat) :
    bits .or .u32 (IntKind.u32.wrap ((x.toNat : Int) * 2 ^ (32 - n))) ((x.toNat : Int) / 2 ^ n) = ((rotr x n).toNat : Int) := by
  have hx := x.isLt
  have e1 : IntKind.u32.wrap ((x.toNat : Int) * 2 ^ (32 - n)) = ((x <<< (32 - n)).toNat : Int) := by
    rw [IntKind.wrap_u32, BitVec.toNat_shiftLeft, Nat.shiftLeft_eq]
    have : ((x.toNat : Int) * 2 ^ (32 - n)) = ((x.toNat * 2 ^ (32 - n) : Nat) : Int) := by simp
    rw [this]; omega
  have e2 : (x.toNat : Int) / 2 ^ n = ((x >>> n).toNat : Int) := by
    rw [BitVec.toNat_ushiftRight, Nat.shiftRight_eq_div_pow]; simp
  rw [e1, e2, u32_or_nat _ _ (BitVec.isLt _) (BitVec.isLt _)]
  unfold rotr
  rw [BitVec.toNat_or, Nat.or_comm]

set_option maxHeartbeats 400000 in
theorem rot_any (x : W32) (k : Int) (w : World) (h1 : 1 ≤ -k) (h2 : -k ≤ 31) :
    Calls Tryd.prog 55 #[U x, .int .i64 k] w fun e w' => e = .returned (U (rotr x (-k).toNat)) ∧ w = w' := by
  obtain ⟨n, hn⟩ : ∃ n : Nat, n = (-k).toNat := ⟨_, rfl⟩
  obtain rfl : k = -(n : Int) := by omega
  have hb := rot_bits n (by omega) (by omega)
  obtain ⟨m, hm⟩ : ∃ m : Nat, m = 32 - n := ⟨_, rfl⟩
  have hv := rot_val x n
  have m1 : 1 ≤ m := by omega
  have m2 : m ≤ 31 := by omega
  rw [← hm] at hb hv
  have Hn := Lib.hid hn
  have Hm := Lib.hid hm
  have Hv := Lib.hid hv
  clear hn hm hv
  go_enter Tryd.func55, Tryd.ntmps55
  go_wp2
  go_ret
  refine ⟨ret_int ?_, rfl⟩
  have hm := Hm.out
  have hn := Hn.out
  rw [← hn, ← Hv.out, IntKind.wrap_u32, show 32 - m = n by omega]

set_option maxHeartbeats 400000 in
theorem shanew_any (w : World) :
    Calls Tryd.prog 40 #[] w fun e w' => e = .returned (.pointer (some ⟨w.heap.size, 0, none⟩)) ∧ w.alloc (.cells (((init.words.map U) ++ List.replicate 64 (B 0) ++ [I 0, I 0]).toArray) 90) = w' := by
  go_enter Tryd.func40, Tryd.ntmps40
  go_wp2
  go_ret
  exact ⟨rfl, by rfl⟩
end Go.Proofs.YtmjaclgbagogfaaDoor
