/- The digest, block by block: what the reference's loops come to. -/
import Derived.Test.YtmjaclgbagogfaaDoorShaP
namespace Go.Proofs.YtmjaclgbagogfaaDoor.Sha
/-- The state when q blocks of a list have gone in. -/
def blks (L : List UInt8) : Nat → St
  | 0 => init
  | q + 1 => mix (blks L q) ((L.drop (64 * q)).take 64)
theorem blks_feed (L : List UInt8) : ∀ q, 64 * q ≤ L.length → (L.take (64 * q)).foldl feed (init, []) = (blks L q, [])
  | 0, _ => by simp [blks]
  | q + 1, h => by
    have e : L.take (64 * (q + 1)) = L.take (64 * q) ++ (L.drop (64 * q)).take 64 := by
      rw [show 64 * (q + 1) = 64 * q + 64 by omega, List.take_add]
    rw [e, List.foldl_append, blks_feed L q (by omega), feed_full _ _ (by simp) (by simp; omega)]
    simp [blks]
theorem pad_length (l : List UInt8) : (pad l).length = l.length + 1 + zeros l.length + 8 := by
  simp [pad, size8]; omega
theorem pad_mod (l : List UInt8) : (pad l).length % 64 = 0 := by
  rw [pad_length]; unfold zeros; omega
theorem digest_blks (l : List UInt8) : digest l = (blks (pad l) ((pad l).length / 64)).out := by
  have h := blks_feed (pad l) ((pad l).length / 64) (by omega)
  rw [List.take_of_length_le (by have := pad_mod l; omega)] at h
  unfold digest
  rw [h]
/-- The number made of k bytes from i on. -/
def wpart (b : List UInt8) (i : Nat) : Nat → Nat
  | 0 => 0
  | k + 1 => wpart b i k * 256 + (b.getD (i + k) 0).toNat
theorem part_lt (b : List UInt8) (i : Nat) : ∀ k, wpart b i k < 256 ^ k
  | 0 => by simp [wpart]
  | k + 1 => by
    have h := part_lt b i k
    have h2 := (b.getD (i + k) 0).toNat_lt
    rw [wpart, Nat.pow_succ]; omega
theorem part_4 (b : List UInt8) (i : Nat) : wpart b i 4 = (b.getD i 0).toNat * 16777216 + (b.getD (i + 1) 0).toNat * 65536 + (b.getD (i + 2) 0).toNat * 256 + (b.getD (i + 3) 0).toNat := by
  have h4 := wpart.eq_2 b i 3
  have h3 := wpart.eq_2 b i 2
  have h2 := wpart.eq_2 b i 1
  have h1 := wpart.eq_2 b i 0
  have h0 := wpart.eq_1 b i
  rw [Nat.add_zero] at h1
  rw [h4, h3, h2, h1, h0]
  omega
theorem word4_part (b : List UInt8) (i : Nat) : word4 b i = BitVec.ofNat 32 (wpart b i 4) := by
  rw [part_4]; rfl
theorem getD_block (L : List UInt8) (q j : Nat) (h : j < 64) : ((L.drop (64 * q)).take 64).getD j 0 = L.getD (64 * q + j) 0 := by
  rw [List.getD_eq_getElem?_getD, List.getElem?_take_of_lt h, List.getElem?_drop, List.getD_eq_getElem?_getD]
end Go.Proofs.YtmjaclgbagogfaaDoor.Sha
