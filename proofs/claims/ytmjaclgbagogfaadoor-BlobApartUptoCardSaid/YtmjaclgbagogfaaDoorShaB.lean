/- What (*sha.Hash).mix does. -/
import Derived.Test.YtmjaclgbagogfaaDoorShaA
namespace Go.Proofs.YtmjaclgbagogfaaDoor
open Go.RowKit Go.Proofs.YtmjaclgbagogfaaDoor.Sha

/-- The schedule in memory when k words are there. -/
def wArr (b : List UInt8) (k : Nat) : Array Value := ((List.range 64).map fun j => if j < k then U (wt b j) else .int .u32 0).toArray
theorem wArr_size (b : List UInt8) (k : Nat) : (wArr b k).size = 64 := by simp [wArr]
theorem wArr_get (b : List UInt8) (k j : Nat) (h : j < k) (h2 : j < 64) : (wArr b k)[j]? = some (U (wt b j)) := by
  simp [wArr, h, h2]
theorem word_val (b0 b1 b2 b3 : UInt8) : bits .or .u32 (bits .or .u32 (bits .or .u32 ((b0.toNat : Int) % 4294967296 * 16777216 % 4294967296) ((b1.toNat : Int) % 4294967296 * 65536 % 4294967296)) ((b2.toNat : Int) % 4294967296 * 256 % 4294967296)) ((b3.toNat : Int) % 4294967296)
    = ((BitVec.ofNat 32 (b0.toNat * 16777216 + b1.toNat * 65536 + b2.toNat * 256 + b3.toNat)).toNat : Int) := by
  have h0 := b0.toNat_lt; have h1 := b1.toNat_lt; have h2 := b2.toNat_lt; have h3 := b3.toNat_lt
  have e0 : (b0.toNat : Int) % 4294967296 * 16777216 % 4294967296 = ((b0.toNat * 2 ^ 24 : Nat) : Int) := by omega
  have e1 : (b1.toNat : Int) % 4294967296 * 65536 % 4294967296 = ((b1.toNat * 2 ^ 16 : Nat) : Int) := by omega
  have e2 : (b2.toNat : Int) % 4294967296 * 256 % 4294967296 = ((b2.toNat * 2 ^ 8 : Nat) : Int) := by omega
  have e3 : (b3.toNat : Int) % 4294967296 = ((b3.toNat : Nat) : Int) := by omega
  have o1 : b0.toNat * 2 ^ 24 ||| b1.toNat * 2 ^ 16 = b0.toNat * 2 ^ 24 + b1.toNat * 2 ^ 16 := by
    rw [Nat.mul_comm, ← Nat.two_pow_add_eq_or_of_lt (by omega)]
  have o2 : (b0.toNat * 2 ^ 24 + b1.toNat * 2 ^ 16) ||| b2.toNat * 2 ^ 8 = b0.toNat * 2 ^ 24 + b1.toNat * 2 ^ 16 + b2.toNat * 2 ^ 8 := by
    rw [show b0.toNat * 2 ^ 24 + b1.toNat * 2 ^ 16 = 2 ^ 16 * (b0.toNat * 2 ^ 8 + b1.toNat) by omega, ← Nat.two_pow_add_eq_or_of_lt (by omega)]
  have o3 : (b0.toNat * 2 ^ 24 + b1.toNat * 2 ^ 16 + b2.toNat * 2 ^ 8) ||| b3.toNat = b0.toNat * 2 ^ 24 + b1.toNat * 2 ^ 16 + b2.toNat * 2 ^ 8 + b3.toNat := by
    rw [show b0.toNat * 2 ^ 24 + b1.toNat * 2 ^ 16 + b2.toNat * 2 ^ 8 = 2 ^ 8 * (b0.toNat * 2 ^ 16 + b1.toNat * 2 ^ 8 + b2.toNat) by omega, ← Nat.two_pow_add_eq_or_of_lt (by omega)]
  rw [e0, e1, e2, e3, u32_or_nat _ _ (by omega) (by omega), o1, u32_or_nat _ _ (by omega) (by omega), o2, u32_or_nat _ _ (by omega) (by omega), o3, BitVec.toNat_ofNat]
  omega
theorem word4_val (l : List UInt8) (i : Nat) : bits .or .u32 (bits .or .u32 (bits .or .u32 (((l[i]?.getD 0).toNat : Int) % 4294967296 * 16777216 % 4294967296) (((l[i + 1]?.getD 0).toNat : Int) % 4294967296 * 65536 % 4294967296)) (((l[i + 2]?.getD 0).toNat : Int) % 4294967296 * 256 % 4294967296)) (((l[i + 3]?.getD 0).toNat : Int) % 4294967296)
    = ((word4 l i).toNat : Int) := by
  rw [word_val]; simp [word4]
theorem xor_val (a b : W32) : bits .xor .u32 (a.toNat : Int) (b.toNat : Int) = ((a ^^^ b).toNat : Int) := by
  rw [u32_xor_nat _ _ a.isLt b.isLt, BitVec.toNat_xor]
theorem and_val (a b : W32) : bits .and .u32 (a.toNat : Int) (b.toNat : Int) = ((a &&& b).toNat : Int) := by
  rw [u32_and_nat _ _ a.isLt b.isLt, BitVec.toNat_and]
theorem shr_val (x : W32) (n d : Nat) (h : d = 2 ^ n) : (x.toNat : Int) / (d : Int) = ((x >>> n).toNat : Int) := by
  rw [BitVec.toNat_ushiftRight, Nat.shiftRight_eq_div_pow, h]; rfl
theorem sched_val (x y a b : W32) : (bits .xor .u32 (bits .xor .u32 ((rotr x 17).toNat : Int) ((rotr x 19).toNat : Int)) ((x.toNat : Int) / 1024) + (a.toNat : Int) +
    bits .xor .u32 (bits .xor .u32 ((rotr y 7).toNat : Int) ((rotr y 18).toNat : Int)) ((y.toNat : Int) / 8) + (b.toNat : Int)) % 4294967296 = ((ssig1 x + a + ssig0 y + b).toNat : Int) := by
  rw [xor_val, xor_val, show ((x.toNat : Int) / 1024) = _ from shr_val x 10 1024 rfl, show ((y.toNat : Int) / 8) = _ from shr_val y 3 8 rfl, xor_val, xor_val]
  show (((ssig1 x).toNat : Int) + (a.toNat : Int) + ((ssig0 y).toNat : Int) + (b.toNat : Int)) % 4294967296 = _
  simp only [BitVec.toNat_add]
  omega
theorem not_val (a : W32) : bits .xor .u32 IntKind.u32.max (a.toNat : Int) = ((~~~a).toNat : Int) := by
  rw [show IntKind.u32.max = ((4294967295 : Nat) : Int) from rfl, u32_xor_nat _ _ (by omega) a.isLt, BitVec.toNat_not]
  rw [Int.natCast_inj]
  have h := BitVec.allOnes_xor (x := a)
  have h2 := congrArg BitVec.toNat h
  rw [BitVec.toNat_xor, BitVec.toNat_not] at h2
  exact h2
theorem add_val (a b : W32) : ((a.toNat : Int) + (b.toNat : Int)) % 4294967296 = ((a + b).toNat : Int) := by
  simp only [BitVec.toNat_add]; omega
theorem one_val (h e f g w : W32) (k : Nat) : ∃ o : Int, (h.toNat : Int) + bits .xor .u32 (bits .xor .u32 ((rotr e 6).toNat : Int) ((rotr e 11).toNat : Int)) ((rotr e 25).toNat : Int) +
    bits .xor .u32 (bits .and .u32 (e.toNat : Int) (f.toNat : Int)) (bits .and .u32 (bits .xor .u32 IntKind.u32.max (e.toNat : Int)) (g.toNat : Int)) + (k : Int) + (w.toNat : Int) = o ∧
    o % 4294967296 = ((h + bsig1 e + ch e f g + BitVec.ofNat 32 k + w).toNat : Int) := by
  refine ⟨_, rfl, ?_⟩
  rw [not_val, xor_val, xor_val, and_val, and_val, xor_val]
  show ((h.toNat : Int) + ((bsig1 e).toNat : Int) + ((ch e f g).toNat : Int) + (k : Int) + (w.toNat : Int)) % 4294967296 = _
  simp only [BitVec.toNat_add, BitVec.toNat_ofNat]
  omega
theorem two_val (a b c : W32) : ∃ o : Int, bits .xor .u32 (bits .xor .u32 ((rotr a 2).toNat : Int) ((rotr a 13).toNat : Int)) ((rotr a 22).toNat : Int) +
    bits .xor .u32 (bits .xor .u32 (bits .and .u32 (a.toNat : Int) (b.toNat : Int)) (bits .and .u32 (a.toNat : Int) (c.toNat : Int))) (bits .and .u32 (b.toNat : Int) (c.toNat : Int)) = o ∧
    o % 4294967296 = ((bsig0 a + maj a b c).toNat : Int) := by
  refine ⟨_, rfl, ?_⟩
  rw [xor_val, xor_val, and_val, and_val, and_val, xor_val, xor_val]
  exact add_val _ _
theorem wArr_last (b : List UInt8) (k : Nat) (h : k < 64) : (wArr b k)[k]? = some (.int .u32 0) := by
  simp [wArr, h]
theorem wArr_set (b : List UInt8) (k : Nat) : (wArr b k).setIfInBounds k (U (wt b k)) = wArr b (k + 1) := by
  apply Array.ext
  · simp [wArr]
  · intro i h1 h2
    simp only [wArr_size, Array.size_setIfInBounds] at h1 h2
    rw [Array.getElem_setIfInBounds (by simpa [wArr_size] using h1)]
    by_cases e : k = i
    · subst e; simp [wArr]
    · rw [if_neg e]
      simp only [wArr, List.getElem_toArray, List.getElem_map, List.getElem_range]
      by_cases h3 : i < k
      · rw [if_pos h3, if_pos (by omega)]
      · rw [if_neg h3, if_neg (by omega)]

/-- The struct's cells. -/
def hashCells (s : St) (rest : List UInt8) (used n : Int) : Array Value := (s.words.map U ++ rest.map B ++ [I used, I n]).toArray
def stCells (s : St) : Array Value := (s.words.map U).toArray
/-- The struct's cells when k of the state's words have been added to. -/
def addCells (s r : St) (k : Nat) (rest : List UInt8) (used n : Int) : Array Value :=
  (((List.range 8).map fun j => U (if j < k then s.words.getD j 0 + r.words.getD j 0 else s.words.getD j 0)) ++ rest.map B ++ [I used, I n]).toArray

theorem hash_cells {w : World} {g : Nat} {t : TypeId} {s : St} {rest : List UInt8} {used n : Int} (h : Blk w g t (hashCells s rest used n)) :
    w.cell? ⟨g, 0, none⟩ = some (U s.a) ∧ w.cell? ⟨g, 1, none⟩ = some (U s.b) ∧ w.cell? ⟨g, 2, none⟩ = some (U s.c) ∧ w.cell? ⟨g, 3, none⟩ = some (U s.d) ∧ w.cell? ⟨g, 4, none⟩ = some (U s.e) ∧ w.cell? ⟨g, 5, none⟩ = some (U s.f) ∧ w.cell? ⟨g, 6, none⟩ = some (U s.g) ∧ w.cell? ⟨g, 7, none⟩ = some (U s.h) :=
  ⟨(h.cell 0).trans rfl, (h.cell 1).trans rfl, (h.cell 2).trans rfl, (h.cell 3).trans rfl, (h.cell 4).trans rfl, (h.cell 5).trans rfl, (h.cell 6).trans rfl, (h.cell 7).trans rfl⟩
theorem st_cells {w : World} {g : Nat} {t : TypeId} {s : St} (h : Blk w g t (stCells s)) :
    w.cell? ⟨g, 0, none⟩ = some (U s.a) ∧ w.cell? ⟨g, 1, none⟩ = some (U s.b) ∧ w.cell? ⟨g, 2, none⟩ = some (U s.c) ∧ w.cell? ⟨g, 3, none⟩ = some (U s.d) ∧ w.cell? ⟨g, 4, none⟩ = some (U s.e) ∧ w.cell? ⟨g, 5, none⟩ = some (U s.f) ∧ w.cell? ⟨g, 6, none⟩ = some (U s.g) ∧ w.cell? ⟨g, 7, none⟩ = some (U s.h) :=
  ⟨(h.cell 0).trans rfl, (h.cell 1).trans rfl, (h.cell 2).trans rfl, (h.cell 3).trans rfl, (h.cell 4).trans rfl, (h.cell 5).trans rfl, (h.cell 6).trans rfl, (h.cell 7).trans rfl⟩

theorem st_sets (r : St) (v0 v1 v2 v3 v4 v5 v6 v7 : Value) : ((((((((stCells r).setIfInBounds 0 v0).setIfInBounds 1 v1).setIfInBounds 2 v2).setIfInBounds 3 v3).setIfInBounds 4 v4).setIfInBounds 5 v5).setIfInBounds 6 v6).setIfInBounds 7 v7 = #[v0, v1, v2, v3, v4, v5, v6, v7] := by simp [stCells, St.words]
theorem below8 {k : Nat} (h : k < 8) : k = 0 ∨ k = 1 ∨ k = 2 ∨ k = 3 ∨ k = 4 ∨ k = 5 ∨ k = 6 ∨ k = 7 := by omega
theorem st_get (r : St) (k : Nat) (h : k < 8) : (stCells r)[k]? = some (U (r.words.getD k 0)) := by
  rcases below8 h with rfl | rfl | rfl | rfl | rfl | rfl | rfl | rfl <;> rfl
theorem add_get (s r : St) (rest : List UInt8) (used n : Int) (k : Nat) (h : k < 8) : (addCells s r k rest used n)[k]? = some (U (s.words.getD k 0)) := by
  rcases below8 h with rfl | rfl | rfl | rfl | rfl | rfl | rfl | rfl <;> rfl
theorem add_set (s r : St) (rest : List UInt8) (used n : Int) (k : Nat) (h : k < 8) : (addCells s r k rest used n).setIfInBounds k (U (s.words.getD k 0 + r.words.getD k 0)) = addCells s r (k + 1) rest used n := by
  rcases below8 h with rfl | rfl | rfl | rfl | rfl | rfl | rfl | rfl <;> rfl

theorem add_all (s r : St) (rest : List UInt8) (used n : Int) : addCells s r 8 rest used n = hashCells (addSt s r) rest used n := rfl

set_option maxRecDepth 100000 in
set_option maxHeartbeats 4000000 in
theorem mix_any (hb bb bo cap : Nat) (s : St) (l rest : List UInt8) (used n : Int) (w : World)
    (hbb : bb < w.heap.size)
    (cb : ∀ i, i < 64 → w.cell? ⟨bb, bo + i, none⟩ = some (B (l.getD i 0)))
    (hg : 0 < w.heap.size)
    (cg : ∀ i, i < 64 → w.cell? ⟨0, i, none⟩ = some (U (BitVec.ofNat 32 (K.getD i 0))))
    (hH : Blk w hb 90 (hashCells s rest used n)) :
    Calls Tryd.prog 50 #[.pointer (some ⟨hb, 0, none⟩), .slice (some ⟨bb, bo, none⟩) 64 cap] w fun e w' => e = .returned (.tuple #[]) ∧
      Blk w' hb 90 (hashCells (mix s l) rest used n) ∧ w.grownBy w' (some hb) := by
  go_enter Tryd.func50, Tryd.ntmps50
  go_wp2_with fail
  go_loopw [18, 5] (fun i _ wr => ∃ k : Nat, k ≤ 16 ∧ i = I k ∧ Below w.heap.size w wr ∧ Blk wr w.heap.size 63 (wArr l k) ∧ wr.heap.size = w.heap.size + 1) (fun i _ _ => 16 - (intOf i).toNat)
  case atStart => exact ⟨0, by omega, rfl, (Below.refl _ _).alloc (Nat.le_refl _) _, Blk.new _ _ _, by simp⟩
  case round =>
    obtain ⟨k, hk, rfl, hB, hK, hz⟩ := hrel
    have Hz := Lib.hid hz
    clear hz
    by_cases hlt : k < 16
    · have c0 := (hB.cell (p := ⟨bb, bo + 4 * k, none⟩) hbb).trans (cb (4 * k) (by omega))
      have c1 := (hB.cell (p := ⟨bb, bo + (4 * k + 1), none⟩) hbb).trans (cb (4 * k + 1) (by omega))
      have c2 := (hB.cell (p := ⟨bb, bo + (4 * k + 2), none⟩) hbb).trans (cb (4 * k + 2) (by omega))
      have c3 := (hB.cell (p := ⟨bb, bo + (4 * k + 3), none⟩) hbb).trans (cb (4 * k + 3) (by omega))
      have s0 : IntKind.i64.wrap (4 * (k : Int)) = 4 * k := IntWalk.i64_in _ (by omega)
      have s1 : IntKind.i64.wrap (4 * (k : Int) + 1) = 4 * k + 1 := IntWalk.i64_in _ (by omega)
      have s2 : IntKind.i64.wrap (4 * (k : Int) + 2) = 4 * k + 2 := IntWalk.i64_in _ (by omega)
      have s3 : IntKind.i64.wrap (4 * (k : Int) + 3) = 4 * k + 3 := IntWalk.i64_in _ (by omega)
      have t0 : (4 * (k : Int)).toNat = 4 * k := by omega
      have t1 : (4 * (k : Int) + 1).toNat = 4 * k + 1 := by omega
      have t2 : (4 * (k : Int) + 2).toNat = 4 * k + 2 := by omega
      have t3 : (4 * (k : Int) + 3).toNat = 4 * k + 3 := by omega
      have b0 : 0 ≤ 4 * (k : Int) := by omega
      have b1 : 0 ≤ 4 * (k : Int) + 1 := by omega
      have b2 : 0 ≤ 4 * (k : Int) + 2 := by omega
      have b3 : 0 ≤ 4 * (k : Int) + 3 := by omega
      have k0 : 0 ≤ (k : Int) := by omega
      have k64 : (k : Int) < 64 := by omega
      have cK := (hK.cell k).trans (wArr_last l k (by omega))
      have fK := hK.frozen k
      have d0 : 4 * (k : Int) < 64 := by omega
      have d1 : 4 * (k : Int) + 1 < 64 := by omega
      have d2 : 4 * (k : Int) + 2 < 64 := by omega
      have d3 : 4 * (k : Int) + 3 < 64 := by omega
      go_wp2_with fail
      go_still_tail 35, (by kernel_rfl)
      go_wp2_with fail
      rw [word4_val, ← wt_low l k hlt]
      have hz := Hz.out
      refine ⟨⟨k + 1, by omega, by go_num, (hB.setCell (Nat.le_refl _) _).drew, ?_, by simpa using hz⟩, by simp [intOf]; omega⟩
      exact (wArr_set l k) ▸ (hK.set_ k _).drew
    · obtain rfl : k = 16 := by omega
      clear hlt hk
      simp only [Int.cast_ofNat_Int]
      go_wp2_with fail
      go_loopw [6] (fun i wr => ∃ k : Nat, 16 ≤ k ∧ k ≤ 64 ∧ i = I k ∧ Below w.heap.size w wr ∧ Blk wr w.heap.size 63 (wArr l k) ∧ wr.heap.size = w.heap.size + 1) (fun i _ => 64 - (intOf i).toNat)
      case atStart => exact ⟨16, by omega, by omega, rfl, hB, hK, Hz.out⟩
      case round =>
        clear hB hK Hz
        obtain ⟨k, hk, hk2, rfl, hB, hK, hz⟩ := hrel
        have Hz := Lib.hid hz
        clear hz
        by_cases hlt : k < 64
        · have s2 : IntKind.i64.wrap ((k : Int) - 2) = k - 2 := IntWalk.i64_in _ (by omega)
          have s7 : IntKind.i64.wrap ((k : Int) - 7) = k - 7 := IntWalk.i64_in _ (by omega)
          have s15 : IntKind.i64.wrap ((k : Int) - 15) = k - 15 := IntWalk.i64_in _ (by omega)
          have s16 : IntKind.i64.wrap ((k : Int) - 16) = k - 16 := IntWalk.i64_in _ (by omega)
          have t2 : ((k : Int) - 2).toNat = k - 2 := by omega
          have t7 : ((k : Int) - 7).toNat = k - 7 := by omega
          have t15 : ((k : Int) - 15).toNat = k - 15 := by omega
          have t16 : ((k : Int) - 16).toNat = k - 16 := by omega
          have b2 : 2 ≤ (k : Int) := by omega
          have b7 : 7 ≤ (k : Int) := by omega
          have b15 : 15 ≤ (k : Int) := by omega
          have b16 : 16 ≤ (k : Int) := by omega
          have e2 : 0 ≤ (k : Int) - 2 := by omega
          have e7 : 0 ≤ (k : Int) - 7 := by omega
          have e15 : 0 ≤ (k : Int) - 15 := by omega
          have e16 : 0 ≤ (k : Int) - 16 := by omega
          have d2 : (k : Int) - 2 < 64 := by omega
          have d7 : (k : Int) - 7 < 64 := by omega
          have d15 : (k : Int) - 15 < 64 := by omega
          have d16 : (k : Int) - 16 < 64 := by omega
          have k0 : 0 ≤ (k : Int) := by omega
          have k64 : (k : Int) < 64 := by omega
          have c2 := (hK.cell (k - 2)).trans (wArr_get l k (k - 2) (by omega) (by omega))
          have c15 := (hK.cell (k - 15)).trans (wArr_get l k (k - 15) (by omega) (by omega))
          go_wp2_with fail
          go_quiet (fail)
          clear c2 c15
          have hz := Hz.out
          clear Hz
          rw [← size_drewN wr nq] at hz
          have Hz := Lib.hid hz
          clear hz
          replace hB := Below.drewN hB nq
          replace hK := hK.drewN nq
          generalize wr.drewN nq = W at hB hK Hz ⊢
          have c7 := (hK.cell (k - 7)).trans (wArr_get l k (k - 7) (by omega) (by omega))
          have c16 := (hK.cell (k - 16)).trans (wArr_get l k (k - 16) (by omega) (by omega))
          have cK := (hK.cell k).trans (wArr_last l k (by omega))
          have fK := hK.frozen k
          go_wp2_with (go_at_call 55; refine (rot_any _ _ _ (by omega) (by omega)).mono ?_; rintro e w' ⟨rfl, rfl⟩)
          go_still_tail 15, (by kernel_rfl)
          go_wp2_with fail
          rw [sched_val, ← wt_high l k hk]
          have hz := Hz.out
          refine ⟨⟨k + 1, by omega, by omega, by go_num, (hB.setCell (Nat.le_refl _) _).drew, ?_, by simpa using hz⟩, by simp [intOf]; omega⟩
          exact (wArr_set l k) ▸ (hK.set_ k _).drew
        · obtain rfl : k = 64 := by omega
          clear hlt hk hk2
          have hH1 := hH.below hB hH.lt
          obtain ⟨h0, h1, h2, h3, h4, h5, h6, h7⟩ := hash_cells hH1
          simp only [Int.cast_ofNat_Int]
          go_wp2_with fail
          have hz := Hz.out
          obtain ⟨W1, hW1⟩ : ∃ W1 : Nat, W1 = wr.heap.size := ⟨_, rfl⟩
          rw [← hW1]
          go_loopw [104] (fun i wr => ∃ k : Nat, k ≤ 64 ∧ i = I k ∧ Below w.heap.size w wr ∧ Blk wr w.heap.size 63 (wArr l 64) ∧ Blk wr W1 62 (stCells (rnds l s k)) ∧ wr.heap.size = w.heap.size + 2) (fun i _ => 64 - (intOf i).toNat)
          case atStart => exact ⟨0, by omega, rfl, hB.alloc (by omega) _, hK.alloc _, hW1 ▸ Blk.new _ _ _, by simp; omega⟩
          case round =>
            clear hB hK Hz h0 h1 h2 h3 h4 h5 h6 h7 hH1
            have HW := Lib.hid (hW1.trans hz)
            clear hW1 hz
            obtain ⟨k, hk, rfl, hB, hK, hS, hz⟩ := hrel
            have Hz := Lib.hid hz
            clear hz
            by_cases hlt : k < 64
            · obtain ⟨r, hr⟩ : ∃ r, r = rnds l s k := ⟨_, rfl⟩
              rw [← hr] at hS
              have Hr := Lib.hid hr
              clear hr
              have k0 : 0 ≤ (k : Int) := by omega
              have k64 : (k : Int) < 64 := by omega
              obtain ⟨c0, c1, c2, c3, c4, c5, c6, c7⟩ := st_cells hS
              go_wp2_with fail
              go_quiet ((go_at_call 55; exact quiet_left (rot_any _ _ _ (by omega) (by omega))))
              replace hB := Below.drewN hB nq
              replace hK := hK.drewN nq
              replace hS := hS.drewN nq
              have hz := Hz.out
              rw [← size_drewN wr nq] at hz
              clear Hz c0 c1 c2 c3 c4 c5 c6 c7
              have Hz := Lib.hid hz
              clear hz
              generalize wr.drewN nq = Wa at hB hK hS Hz ⊢
              obtain ⟨c0, c1, c2, c3, c4, c5, c6, c7⟩ := st_cells hS
              have cW := (hK.cell k).trans (wArr_get l 64 k hlt hlt)
              have cG := (hB.cell (p := ⟨0, k, none⟩) hg).trans (cg k hlt)
              go_wp2_with fail
              go_quiet (fail)
              clear cW cG
              replace hB := Below.drewN hB nq
              replace hK := hK.drewN nq
              replace hS := hS.drewN nq
              have hz := Hz.out
              rw [← size_drewN Wa nq] at hz
              clear Hz c0 c1 c2 c3 c4 c5 c6 c7
              have Hz := Lib.hid hz
              clear hz
              generalize Wa.drewN nq = Wb at hB hK hS Hz ⊢
              obtain ⟨c0, c1, c2, c3, c4, c5, c6, c7⟩ := st_cells hS
              go_wp2_with fail
              go_quiet ((go_at_call 55; exact quiet_left (rot_any _ _ _ (by omega) (by omega))))
              replace hB := Below.drewN hB nq
              replace hK := hK.drewN nq
              replace hS := hS.drewN nq
              have hz := Hz.out
              rw [← size_drewN Wb nq] at hz
              clear Hz c0 c1 c2 c3 c4 c5 c6 c7
              have Hz := Lib.hid hz
              clear hz
              generalize Wb.drewN nq = Wc at hB hK hS Hz ⊢
              obtain ⟨c0, c1, c2, c3, c4, c5, c6, c7⟩ := st_cells hS
              have f0 := hS.frozen 0
              have f1 := hS.frozen 1
              have f2 := hS.frozen 2
              have f3 := hS.frozen 3
              have f4 := hS.frozen 4
              have f5 := hS.frozen 5
              have f6 := hS.frozen 6
              have f7 := hS.frozen 7
              go_wp2_with fail
              obtain ⟨o1, ho1, hv1⟩ := one_val r.h r.e r.f r.g (wt l k) (K[k]?.getD 0)
              obtain ⟨o2, ho2, hv2⟩ := two_val r.a r.b r.c
              rw [ho1, ho2]
              clear ho1 ho2
              have hw := HW.out
              have hge : w.heap.size ≤ W1 := by omega
              have hne : w.heap.size ≠ W1 := by omega
              refine ⟨⟨k + 1, by omega, by go_num, ?_, ?_, ?_, by simpa using Hz.out⟩, by simp [intOf]; omega⟩
              · exact (((((((hB.setCell hge _).setCell hge _).setCell hge _).setCell hge _).setCell hge _).setCell hge _).setCell hge _).setCell hge _
              · exact (((((((hK.far hne _).far hne _).far hne _).far hne _).far hne _).far hne _).far hne _).far hne _
              · have h8 := (((((((hS.set_ 0 (.int .u32 ((o1 + o2) % 4294967296))).set_ 1 (U r.a)).set_ 2 (U r.b)).set_ 3 (U r.c)).set_ 4 (.int .u32 (((r.d.toNat : Int) + o1) % 4294967296))).set_ 5 (U r.e)).set_ 6 (U r.f)).set_ 7 (U r.g)
                rw [st_sets] at h8
                have e1 : (o1 + o2) % 4294967296 = (((r.h + bsig1 r.e + ch r.e r.f r.g + BitVec.ofNat 32 (K[k]?.getD 0) + wt l k) + (bsig0 r.a + maj r.a r.b r.c)).toNat : Int) := by
                  rw [← add_val, ← hv1, ← hv2]; omega
                have e2 : ((r.d.toNat : Int) + o1) % 4294967296 = ((r.d + (r.h + bsig1 r.e + ch r.e r.f r.g + BitVec.ofNat 32 (K[k]?.getD 0) + wt l k)).toNat : Int) := by
                  rw [← add_val, ← hv1]; omega
                rw [rnds, ← Hr.out]
                rw [e1, e2] at h8 ⊢
                rw [List.getD_eq_getElem?_getD]
                exact h8
            · obtain rfl : k = 64 := by omega
              clear hlt hk
              have hH1 := hH.below hB hH.lt
              have hO := only_of_below hB (some hb)
              have hne : hb ≠ W1 := by have := hH.lt; have := HW.out; omega
              obtain ⟨r, hr⟩ : ∃ r, r = rnds l s 64 := ⟨_, rfl⟩
              rw [← hr] at hS
              have Hr := Lib.hid hr
              clear hr
              simp only [Int.cast_ofNat_Int]
              go_wp2_with fail
              have hz := Hz.out
              go_loopw [194, 17] (fun i _ wr => ∃ k : Nat, k ≤ 8 ∧ i = I k ∧ w.grownBy wr (some hb) ∧ Blk wr hb 90 (addCells s r k rest used n) ∧ Blk wr W1 62 (stCells r)) (fun i _ _ => 8 - (intOf i).toNat)
              case atStart => exact ⟨0, by omega, rfl, hO, hH1, hS⟩
              case round =>
                clear hB hK hS Hz hH1 hO hz
                obtain ⟨k, hk, rfl, hO, hA, hS⟩ := hrel
                by_cases hlt : k < 8
                · have k0 : 0 ≤ (k : Int) := by omega
                  have k8 : (k : Int) < 8 := by omega
                  have cA := (hA.cell k).trans (add_get s r rest used n k hlt)
                  have fA := hA.frozen k
                  have cS := (hS.cell k).trans (st_get r k hlt)
                  go_wp2_with fail
                  go_still_tail 13, (by kernel_rfl)
                  go_wp2_with fail
                  rw [add_val]
                  refine ⟨⟨k + 1, by omega, by go_num, only_drew (only_setCell hO (.inl rfl) _), ?_, (hS.far (p := ⟨hb, k, none⟩) (Ne.symm hne) _).drew⟩, by simp [intOf]; omega⟩
                  have hA2 := hA.set_ k (U (s.words.getD k 0 + r.words.getD k 0))
                  rw [add_set s r rest used n k hlt] at hA2
                  simp only [List.getD_eq_getElem?_getD] at hA2
                  exact hA2.drew
                · obtain rfl : k = 8 := by omega
                  clear hlt hk
                  rw [add_all, Hr.out] at hA
                  go_wp2_with fail
                  go_end0
                  exact ⟨rfl, hA, hO⟩
end Go.Proofs.YtmjaclgbagogfaaDoor
