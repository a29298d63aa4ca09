/- What sha.Sum does: the digest of some bytes. -/
import Derived.Test.YtmjaclgbagogfaaDoorShaD
namespace Go.Proofs.YtmjaclgbagogfaaDoor
open Go.RowKit Go.Proofs.YtmjaclgbagogfaaDoor.Sha

theorem dig_one (d : List UInt8) : (d.map B).toArray.all (·.oneCell') = true := by
  rw [Array.all_eq_true_iff_forall_mem]
  intro v hv
  simp only [List.mem_toArray, List.mem_map] at hv
  obtain ⟨c, _, rfl⟩ := hv; rfl
theorem shanew_prop (w : World) : Calls Tryd.prog 40 #[] w fun e w' => e = .returned (.pointer (some ⟨w.heap.size, 0, none⟩)) ∧
    HS w' w.heap.size (init, []) 0 ∧ Below w.heap.size w w' ∧ w'.heap.size = w.heap.size + 1 := by
  refine (shanew_any w).mono ?_
  rintro e w' ⟨rfl, rfl⟩
  exact ⟨rfl, ⟨by simp, List.replicate 64 0, rfl, rfl, Blk.new _ _ _⟩, (Below.refl _ w).alloc (Nat.le_refl _) _, by simp⟩

set_option maxHeartbeats 4000000 in
/-- sha.Sum: the digest of some bytes. -/
theorem sum_any (A : Option Addr) (cap : Nat) (l : List UInt8) (w : World) (hl : l.length ≤ 1125899906842624) (hcap : l.length ≤ cap)
    (hg : 0 < w.heap.size)
    (cg : ∀ i, i < 64 → w.cell? ⟨0, i, none⟩ = some (U (BitVec.ofNat 32 (K.getD i 0))))
    (hA : l ≠ [] → ∃ b o, A = some ⟨b, o, none⟩ ∧ b < w.heap.size ∧ ∀ j, j < l.length → w.cell? ⟨b, o + j, none⟩ = some (B (l.getD j 0))) :
    Calls Tryd.prog 27 #[.slice A l.length cap] w fun e w' => e = .returned (encD (digest l)) ∧ Below w.heap.size w w' := by
  go_enter Tryd.func27, Tryd.ntmps27
  go_wp2_with fail
  have hB0 : Below w.heap.size w (w.alloc (.cells (Array.replicate 32 (B 0)) 29)) := (Below.refl _ w).alloc (Nat.le_refl _) _
  have hR0 := Blk.new w 29 (Array.replicate 32 (B 0))
  refine (shanew_prop _).mono ?_
  rintro e W ⟨rfl, hH, hB1, hz⟩
  rw [World.size_alloc] at hH hB1 hz
  have hB : Below w.heap.size w W := hB0.trans (hB1.mono (by omega))
  have hR : Blk W w.heap.size 29 (Array.replicate 32 (B 0)) := hR0.below hB1 (by omega)
  have Hz := Lib.hid hz
  clear hB0 hR0 hB1 hz
  have hcW : ∀ i, i < 64 → W.cell? ⟨0, i, none⟩ = some (U (BitVec.ofNat 32 (K.getD i 0))) := fun i hi => (hB.cell (p := ⟨_, i, none⟩) hg).trans (cg i hi)
  have hgW : 0 < W.heap.size := by have := hB.size; omega
  have Hc := Lib.hid hcW
  clear hcW
  rw [World.size_alloc]
  go_wp2_with fail
  refine (write_any (w.heap.size + 1) (init, []) 0 A cap l W (by omega) (by omega) hcap hgW (by omega) Hc.out (fun hne => ?_) hH).mono ?_
  · obtain ⟨b, o, h1, h2, h3⟩ := hA hne
    exact ⟨b, o, h1, by have := hB.size; omega, by omega, fun j hj => (hB.cell (p := ⟨b, _, none⟩) h2).trans (h3 j hj)⟩
  rintro e W2 ⟨rfl, hH2, hO2⟩
  have hB2 := below_of_only hB hO2 hB.size (by omega)
  have hR2 := hR.grown hO2 (by simp)
  rw [Int.zero_add] at hH2
  go_wp2_with fail
  refine (hsum_any (w.heap.size + 1) l W2 hl (by have := hO2.size; omega) (fun i hi => (hB2.cell (p := ⟨_, i, none⟩) hg).trans (cg i hi)) hH2).mono ?_
  rintro e W3 ⟨rfl, hB3⟩
  have hB4 : Below w.heap.size w W3 := hB2.trans (hB3.mono hB2.size)
  have hR3 : Blk W3 w.heap.size 29 (Array.replicate 32 (B 0)) := hR2.below hB3 hR2.lt
  have hsz : ((digest l).map B).toArray.size = 32 := by simp [digest_length]
  have Hsz := Lib.hid hsz
  have Hone := Lib.hid (dig_one (digest l))
  clear hsz hH hR hB hH2 hB2 hR2 hO2 hB3
  unfold encD
  go_wp2_with (refine wpList_store_row rfl 29 (.tmp 2) (.tmp 9) rfl w.heap.size ((digest l).map B).toArray rfl rfl 29 _ hR3 (by rw [Hsz.out]; exact dig_info) (by rw [Hsz.out]; rfl) Hone.out ?_)
  refine bodyPost_ret (results_cell_row rfl _ _ w.heap.size 29 _ (0, 0) _ rfl (hR3.setRow _) Tryd.underlying29 rfl (by rw [Hsz.out]; exact dig_info)) rfl ?_
  exact ⟨rfl, below_setRow hB4 (Nat.le_refl _) _⟩
end Go.Proofs.YtmjaclgbagogfaaDoor
