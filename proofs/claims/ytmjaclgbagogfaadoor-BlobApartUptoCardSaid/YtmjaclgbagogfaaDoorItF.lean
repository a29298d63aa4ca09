/- (*blob.Store).All. -/
import Derived.Test.YtmjaclgbagogfaaDoorItE
namespace Go.Proofs.YtmjaclgbagogfaaDoor
open Go.RowKit Go.Maps Go.MapKept Go.Proofs.YtmjaclgbagogfaaDoor.Sha Go.Sort Go.Shelf

set_option maxHeartbeats 1000000 in
theorem all_any (F : Nat → Prop) (s : Nat) (q n : Int) (m : M) (w : World) (h : Store F w s q n m) (hlen : m.length ≤ 1099511627776) :
    Calls Tryd.prog 21 #[.pointer (some ⟨s, 0, none⟩)] w fun e w' => ∃ bx v ys, e = .returned (.func (.func 49) #[] #[.pointer (some ⟨bx, 0, none⟩)]) ∧
      w.heap.size ≤ bx ∧ bx < w'.heap.size ∧ w'.cell? ⟨bx, 0, none⟩ = some v ∧ Digs w'.heap.size w' v ys ∧ Lo w.heap.size v ∧ (ys.map (·.1)).Perm (m.map (·.1)) ∧ ys.Pairwise (fun a b => ¬ lexc b a < 0) ∧ Below w.heap.size w w' := by
  obtain ⟨mb, l, clock, hK, hs, hH, rfl⟩ := h
  have c2 := hK.cell 2
  have e1 : (l.map Rec.ent).map (·.1) = (l.map Rec.abs).map (·.1) := by rw [List.map_map, List.map_map]; rfl
  have hll : (l.map Rec.ent).length ≤ 1099511627776 := by simpa using hlen
  have hso := sorted_any w.heap.size mb clock (l.map Rec.ent) (w.alloc (.cells #[.map (some mb)] 56)) (by simp) ((Blk.new w _ _).cell 0) (hH.map.alloc _) hll
  rw [e1] at hso
  have Hso := Lib.hid hso
  clear hso e1 hll hlen
  go_enter Tryd.func21, Tryd.ntmps21
  go_wp2_with (first
    | (go_at_call 37; refine (keys_any _ _).mono ?_; rintro e w' ⟨rfl, rfl⟩)
    | (go_at_call 36; refine Hso.out.mono ?_; rintro e W ⟨A, k, c, ys, rfl, h1, h2, h3, h4, h5⟩)
    | (go_at_call 39; refine (values_any _ _ _ _).mono ?_; rintro e w' ⟨rfl, rfl⟩))
  refine bodyPost_ret (results_tmp rfl _ _ _) rfl ?_
  have hz : (w.alloc (.cells #[.map (some mb)] 56)).heap.size = w.heap.size + 1 := by simp
  have hsz := h5.size
  have hB1 : Below w.heap.size w W := ((Below.refl _ w).alloc (Nat.le_refl _) _).trans (h5.mono (by omega))
  have hB2 : Below W.heap.size W (W.alloc (.cells #[.slice A k c] 75)) := (Below.refl _ W).alloc (Nat.le_refl _) _
  refine ⟨W.heap.size, rfl, by omega, by simp, .slice A k c, (Blk.new W _ _).cell 0, ys, ?_, fun b hb => by have := h4 b hb; omega, by simpa using h1, h2, hB1.trans (hB2.mono hB1.size)⟩
  have hD := h3.below hB2
  rcases hD with hD | ⟨b, cap, d1, d2, d3, d4⟩
  · exact .inl hD
  · exact .inr ⟨b, cap, d1, d2, by simp; omega, d4⟩

end Go.Proofs.YtmjaclgbagogfaaDoor
