/- A store that is nil. -/
import Derived.Test.YtmjaclgbagogfaaDoorItD
import Derived.Test.YtmjaclgbagogfaaDoorRoom
namespace Go.Proofs.YtmjaclgbagogfaaDoor
open Go.RowKit Go.Maps Go.MapKept Go.Proofs.YtmjaclgbagogfaaDoor.Sha Go.Sort Go.Shelf

/-! ### no store -/
theorem zeros_blk (w : World) : Blk (w.alloc (.cells (Array.replicate 32 (B 0)) 29)) w.heap.size 29 (Array.replicate 32 (B 0)) := Blk.new w _ _
theorem putall_nil (A : Option Addr) (n c : Nat) (w : World) : Calls Tryd.prog 26 #[.pointer none, .slice A n c] w fun e w' => e = .returned (I 7) ∧ w = w' := by
  go_enter Tryd.func26, Tryd.ntmps26
  go_wp2
  go_ret
  exact ⟨rfl, rfl⟩
set_option maxHeartbeats 1000000 in
theorem put_nil (A : Option Addr) (n c : Nat) (w : World) : Calls Tryd.prog 11 #[.pointer none, .slice A n c] w fun e w' => (∃ cs : Array Value, cs.size = 32 ∧ cs.all (·.oneCell') = true ∧ e = .returned (.tuple #[.agg cs, I 7])) ∧ Below w.heap.size w w' := by
  have hZ := (Blk.new w 29 (Array.replicate 32 (B 0))).alloc (.cells #[.slice A n c] 31)
  have hB : Below w.heap.size w ((w.alloc (.cells (Array.replicate 32 (B 0)) 29)).alloc (.cells #[.slice A n c] 31)) := ((Below.refl _ w).alloc (Nat.le_refl _) _).alloc (by simp) _
  go_enter Tryd.func11, Tryd.ntmps11
  go_wp2_with (first
    | (go_at_call 26; refine (putall_nil _ _ _ _).mono ?_; rintro e w' ⟨rfl, rfl⟩)
    | (refine wpList_store_row rfl 29 (.tmp 4) (.tmp 13) rfl w.heap.size _ rfl rfl 29 _ hZ (by exact dig_info) (by rfl) (by exact zeros_ok) ?_))
  refine bodyPost_ret (results_row_tmp rfl _ _ w.heap.size 29 _ (0, 0) _ rfl (hZ.setRow (Array.replicate 32 (B 0))) Tryd.underlying29 rfl (by exact dig_info) _ rfl) rfl ?_
  exact ⟨⟨_, rfl, zeros_ok, rfl⟩, below_setRow hB (Nat.le_refl _) _⟩
theorem get_nil (cs : Array Value) (w : World) : Calls Tryd.prog 23 #[.pointer none, .agg cs] w fun e w' => e = .returned (.tuple #[.slice none 0 0, I 7]) ∧ Below w.heap.size w w' := by
  go_enter Tryd.func23, Tryd.ntmps23
  go_wp2
  go_ret2
  exact ⟨rfl, (Below.refl _ w).alloc (Nat.le_refl _) _⟩
theorem drop_nil (cs : Array Value) (w : World) : Calls Tryd.prog 12 #[.pointer none, .agg cs] w fun e w' => e = .returned (I 7) ∧ Below w.heap.size w w' := by
  go_enter Tryd.func12, Tryd.ntmps12
  go_wp2
  go_ret
  exact ⟨rfl, (Below.refl _ w).alloc (Nat.le_refl _) _⟩
theorem spoil_nil (cs : Array Value) (k : Int) (t : UInt8) (w : World) : Calls Tryd.prog 22 #[.pointer none, .agg cs, I k, B t] w fun e w' => e = .returned (I 7) ∧ Below w.heap.size w w' := by
  go_enter Tryd.func22, Tryd.ntmps22
  go_wp2
  go_ret
  exact ⟨rfl, (Below.refl _ w).alloc (Nat.le_refl _) _⟩
theorem has_nil (cs : Array Value) (w : World) : Calls Tryd.prog 9 #[.pointer none, .agg cs] w fun e w' => e = .returned (.bool false) ∧ Below w.heap.size w w' := by
  go_enter Tryd.func9, Tryd.ntmps9
  go_wp2
  go_ret
  exact ⟨rfl, (Below.refl _ w).alloc (Nat.le_refl _) _⟩
theorem count_nil (w : World) : Calls Tryd.prog 20 #[.pointer none] w fun e w' => e = .returned (I 0) ∧ w = w' := by
  go_enter Tryd.func20, Tryd.ntmps20
  go_wp2
  go_ret
  exact ⟨rfl, rfl⟩
theorem clone_nil (w : World) : Calls Tryd.prog 15 #[.pointer none] w fun e w' => e = .returned (.pointer none) ∧ w = w' := by
  go_enter Tryd.func15, Tryd.ntmps15
  go_wp2
  go_ret
  exact ⟨rfl, rfl⟩
end Go.Proofs.YtmjaclgbagogfaaDoor
