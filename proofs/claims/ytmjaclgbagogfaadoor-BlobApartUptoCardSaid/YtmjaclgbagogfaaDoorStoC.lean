/- slices.Clone of bytes. -/
import Derived.Test.YtmjaclgbagogfaaDoorStoA
import Derived.Stop.BytesEq
namespace Go.Proofs.YtmjaclgbagogfaaDoor
open Go.RowKit Go.Maps Go.MapKept Go.Proofs.YtmjaclgbagogfaaDoor.Sha

theorem own_base {w : World} {base base' n : Nat} {v : Value} {xs : List Value} {e : TypeId} {size : Nat} (h : w.ownsRow base e size v n xs) (hb : base' ≤ base) : w.ownsRow base' e size v n xs := by
  refine ⟨h.1, ?_⟩
  rcases h.2 with h1 | ⟨g', cap, cur, rfl, h2, h3⟩
  · exact .inl h1
  · exact .inr ⟨g', cap, cur, rfl, Nat.le_trans hb h2, h3⟩
theorem own_fresh {w : World} {base n : Nat} {v : Value} {xs : List Value} {e : TypeId} {size : Nat} (h : w.ownsRow base e size v n xs) {g : Nat} (hg : v.ownBlock = some g) : base ≤ g := by
  rcases h.2 with ⟨rfl, _⟩ | ⟨g', cap, cur, rfl, h2, _⟩
  · simp [Value.ownBlock] at hg
  · have : g' = g := by simpa [Value.ownBlock] using hg
    omega
set_option maxRecDepth 100000 in
theorem clone_any (A : Option Addr) (cap : Nat) (l : List UInt8) (w : World) (hl : l.length ≤ 70368744177664) (hA : In w A l) (hN : A = none → cap = 0) :
    Calls Tryd.prog 28 #[.slice A l.length cap] w fun e w' => ∃ v, e = .returned v ∧ w'.ownsRow w.heap.size 5 1 v l.length (l.map B) ∧ Below w.heap.size w w' := by
  have hR := hA.reads
  rcases A with _ | ad
  · have h0 : l = [] := by
      rcases l with _ | ⟨c, l⟩
      · rfl
      · obtain ⟨b, o, h, _⟩ := hA (by simp)
        cases h
    subst h0
    obtain rfl := hN rfl
    have he : ∀ w : World, (binOp .eql 31 (.slice none 0 0) (.slice none 0 0)).run Tryd.prog w = .ok (.bool true) w := fun _ => rfl
    go_enter Tryd.func28, Tryd.ntmps28
    go_wp2_with fail
    go_ret
    exact ⟨_, rfl, ⟨rfl, .inl ⟨rfl, rfl⟩⟩, Below.refl _ w⟩
  · have he : ∀ w : World, (binOp .eql 31 (.slice (some ad) l.length cap) (.slice none 0 0)).run Tryd.prog w = .ok (.bool false) w := fun _ => rfl
    have hown := own_made w w.heap.size 5 (Nat.le_refl _)
    have hB : Below w.heap.size w (w.alloc (.cells #[] 5)) := (Below.refl _ w).alloc (Nat.le_refl _) _
    replace hR := (hR.alloc (Nat.le_refl _) (.cells #[] 5))
    have H1 := Lib.hid (bytes_one l)
    go_enter Tryd.func28, Tryd.ntmps28
    obtain ⟨i0, hi0, hzz⟩ := Option.map_eq_some_iff.1 u8_row
    injection hzz with hz0 hzz
    injection hzz with hz1 hz2
    have H63 : Hid (0 + l.length ≤ maxLen) := Lib.hid (by unfold maxLen; omega)
    have Hby : Hid ((0 + l.length) * 1 ≤ 140737488355328) := Lib.hid (by omega)
    have hsz : w.heap.size ≤ (w.alloc (.cells #[] 5)).heap.size := by simp
    go_wp2_with (refine wpList_append_any _ rfl (.tmp 5) (.tmp 6) 31 rfl w.heap.size 5 i0 _ 1 1 Tryd.underlying31 hi0 hz0 hz1 hz2 rfl (by decide) (.slice (some ⟨w.heap.size, 0, none⟩) 0 0) 0 [] rfl hown _ _ l.length cap (l.map B) rfl hR H1.out H63.out Hby.out hsz ?_)
    intro v' w' h1 h2 h3
    have hB2 : Below w.heap.size w w' := ⟨h2.os.trans hB.os, h2.tape.trans hB.tape, h2.output.trans hB.output, Nat.le_trans hB.size h2.size, fun i hi => (h2.block i (by have := hB.size; omega) (by
      intro e; simp [Value.ownBlock] at e; omega)).trans (hB.block i hi)⟩
    clear hB hR hown h2 h3 hA
    go_wp2_with fail
    go_ret
    exact ⟨_, rfl, h1, hB2⟩
/-- The bytes of a slice of the program's own, as bytes that come in. -/
theorem own_in {w : World} {v : Value} {c : List UInt8} (h : Own w v c) : ∃ A cap, v = .slice A c.length cap ∧ c.length ≤ cap ∧ (A = none → cap = 0) ∧ In w A c := by
  rcases h.2 with ⟨hv, h0⟩ | ⟨g, cap, cur, hv, h2, hh, h3, h4, h5, h6⟩
  · refine ⟨none, 0, by rw [hv, h0], by omega, fun _ => rfl, fun hne => absurd (List.eq_nil_of_length_eq_zero h0) hne⟩
  · refine ⟨_, cap, hv, by omega, (fun e => by simp at e), fun hne => ⟨g, 0, rfl, Blk.lt (t := 5) (cs := cur) hh, fun j hj => ?_⟩⟩
    have hc := h.cells (g := g) (by rw [hv]; rfl) j (B (c.getD j 0)) (by
      rw [List.getElem?_map, List.getElem?_eq_getElem hj, List.getD_eq_getElem?_getD, List.getElem?_eq_getElem hj]; rfl)
    rw [add_none] at hc
    exact hc
theorem u8_size : ∀ w, (sizeOf 5).run Tryd.prog w = .ok 1 w := by
  intro w
  have h := u8_info
  obtain ⟨i, hi, hz⟩ := Option.map_eq_some_iff.1 h
  simp [sizeOf, typeInfo, hi, hz]
theorem encD_eq (a b : List UInt8) (w : World) (ha : IsD a) (hb : IsD b) : (binOp .eql 29 (encD a) (encD b)).run Tryd.prog w = .ok (.bool (a == b)) w :=
  run_eql_bytes w 29 5 32 Tryd.underlying29 Tryd.underlying5 u8_size a b ha hb
theorem encD_ne (a b : List UInt8) (w : World) (ha : IsD a) (hb : IsD b) : (binOp .neq 29 (encD a) (encD b)).run Tryd.prog w = .ok (.bool (!(a == b))) w := by
  show (binOp .neq 29 (.agg (a.map Extern.Stop.cell).toArray) (.agg (b.map Extern.Stop.cell).toArray)).run Tryd.prog w = _
  rw [run_neq_struct, run_equalIn_bytes w 9998 29 5 32 Tryd.underlying29 Tryd.underlying5 u8_size a b ha hb]
  rfl
theorem sum_own (v : Value) (c : List UInt8) (w : World) (hl : c.length ≤ 1125899906842624) (hr : Rounds w) (h : Own w v c) :
    Calls Tryd.prog 27 #[v] w fun e w' => e = .returned (encD (digest c)) ∧ Below w.heap.size w w' := by
  obtain ⟨A, cap, rfl, h1, _, h2⟩ := own_in h
  exact sum_any A cap c w hl h1 hr.1 hr.2 h2
theorem clone_own (v : Value) (c : List UInt8) (w : World) (hl : c.length ≤ 70368744177664) (h : Own w v c) :
    Calls Tryd.prog 28 #[v] w fun e w' => ∃ v', e = .returned v' ∧ w'.ownsRow w.heap.size 5 1 v' c.length (c.map B) ∧ Below w.heap.size w w' := by
  obtain ⟨A, cap, rfl, h1, h3, h2⟩ := own_in h
  exact clone_any A cap c w hl h2 h3
end Go.Proofs.YtmjaclgbagogfaaDoor
