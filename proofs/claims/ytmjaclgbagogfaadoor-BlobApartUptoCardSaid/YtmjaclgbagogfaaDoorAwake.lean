/- awake: a store answers what the document fixes. -/
import Derived.Test.YtmjaclgbagogfaaDoorStoG
import Derived.Test.YtmjaclgbagogfaaDoorRShaB
import Derived.Lib.SlBytesConst
import Derived.Lib.SlBytesRow
import Derived.Laws.BytesArg
namespace Go.Proofs.YtmjaclgbagogfaaDoor
open Go.RowKit Go.Maps Go.MapKept Go.Proofs.YtmjaclgbagogfaaDoor.Sha

theorem ab_ne_cd : digest [99, 100] ≠ digest [97, 98] := by decide +kernel
theorem size_bytes (l : List UInt8) : (⟨l.toArray⟩ : ByteArray).size = l.length := by show l.toArray.size = _; simp
theorem str_blk {w : World} {b o cap : Nat} {l : List UInt8} (h : ∀ j, j < l.length → w.cell? ⟨b, o + j, none⟩ = some (B (l.getD j 0))) :
    (convert 31 9 (.slice (some ⟨b, o, none⟩) l.length cap)).run Tryd.prog w = .ok (.string ⟨l.toArray⟩) w := by
  have := Lib.run_convert_whole (P := Tryd.prog) w 31 5 9 Tryd.underlying31 Tryd.underlying5 Tryd.underlying9 b o ⟨l.toArray⟩ (fun i hi => by
    rw [size_bytes] at hi
    rw [h i hi, List.getD_eq_getElem?_getD, List.getElem?_eq_getElem hi]
    rfl) cap
  rwa [size_bytes] at this
theorem str_own {w : World} {v : Value} {c : List UInt8} (h : Own w v c) : (convert 31 9 v).run Tryd.prog w = .ok (.string ⟨c.toArray⟩) w := by
  rcases h.2 with ⟨hv, h0⟩ | ⟨g, cap, cur, hv, h2, hh, h3, h4, h5, h6⟩
  · have : c = [] := List.eq_nil_of_length_eq_zero h0
    subst this
    rw [hv]
    exact run_convert_bytes_nil (P := Tryd.prog) w 31 5 Tryd.underlying31 Tryd.underlying5 0 0 9 Tryd.underlying9
  · rw [hv]
    refine str_blk (fun j hj => ?_)
    have hc := h.cells (g := g) (by rw [hv]; rfl) j (B (c.getD j 0)) (by
      rw [List.getElem?_map, List.getElem?_eq_getElem hj, List.getD_eq_getElem?_getD, List.getElem?_eq_getElem hj]; rfl)
    rw [add_none] at hc
    exact hc
/-- A digest in a new box. -/
theorem box_facts (W : World) (cs : Array Value) : Blk ((W.alloc (.cells (Array.replicate 32 (B 0)) 29)).setRow W.heap.size cs) W.heap.size 29 cs ∧
    Below W.heap.size W ((W.alloc (.cells (Array.replicate 32 (B 0)) 29)).setRow W.heap.size cs) := by
  have hG : W.grownBy ((W.alloc (.cells (Array.replicate 32 (B 0)) 29)).setRow W.heap.size cs) (some W.heap.size) := only_trans (only_alloc (World.grownBy.refl W _) _) (setRow_grown _ _ _)
  exact ⟨(Blk.new W 29 (Array.replicate 32 (B 0))).setRow cs, hG.os, hG.tape, hG.output, hG.size, fun i hi => hG.block i hi (by intro e; injection e with e; omega)⟩
set_option maxRecDepth 100000 in
set_option maxHeartbeats 2000000 in
theorem awake_any (w : World) (hR : Rounds w) :
    Calls Tryd.prog 6 #[] w fun e w' => e = .returned (.bool true) ∧ Below w.heap.size w w' := by
  go_enter Tryd.func6, Tryd.ntmps6
  go_wp2_with fail
  refine (new_any (fun g => w.heap.size ≤ g) 3 w (fun i hi => hi)).mono ?_
  rintro e W ⟨s, rfl, hs, hB⟩
  have hR1 := hR.below hB
  have hcv := fun (w : World) (C : Array Value) (n c : Nat) => Lib.run_convert_bytes_const (P := Tryd.prog) w 31 5 C n c Tryd.underlying31 Tryd.underlying5
  have hrf : ¬ (w.heap.size ≤ 0) := by have := hR.1; omega
  go_wp2_with fail
  have hB1 : Below w.heap.size w (W.alloc (.cells #[.int .u8 97, .int .u8 98] 5 (2, 3))) := hB.alloc hB.size _
  have hs1 := (hs.weak (G := fun g => w.heap.size ≤ g ∧ g ≠ W.heap.size) (fun i hi hf => ⟨hf, by omega⟩)).below ((Below.refl W.heap.size W).alloc (Nat.le_refl _) (.cells #[.int .u8 97, .int .u8 98] 5 (2, 3)))
  have hz : (W.alloc (.cells #[.int .u8 97, .int .u8 98] 5 (2, 3))).heap.size = W.heap.size + 1 := by simp
  have hsz := hB.size
  have hbs : Bs (fun g => w.heap.size ≤ g ∧ g ≠ W.heap.size) (W.alloc (.cells #[.int .u8 97, .int .u8 98] 5 (2, 3))) (.slice (some ⟨W.heap.size, 0, none⟩) 2 2) [97, 98] := by
    refine ⟨_, 2, rfl, by simp, by simp, fun _ => ⟨W.heap.size, 0, rfl, by omega, fun h => h.2 rfl, fun j hj => ?_⟩⟩
    simp only [List.length_cons, List.length_nil] at hj
    rw [World.cell?_alloc_mark]
    rcases j with _ | _ | j
    · rfl
    · rfl
    · omega
  have hR2 := hR.below hB1
  generalize W.alloc (.cells #[.int .u8 97, .int .u8 98] 5 (2, 3)) = W1 at hB1 hs1 hbs hR2 hz ⊢
  refine (put_any _ s 3 [] _ [97, 98] W1 (fun i hi => ⟨by omega, by omega⟩) hR2 (fun h => hrf h.1) hbs hs1 (by omega) (by omega) (by simp [tot])).mono ?_
  have hc : putCode [] 3 [97, 98] = 0 := by simp [putCode, get, tot]
  have ht : putTo [] 3 [97, 98] = [(digest [97, 98], [97, 98])] := by simp [putTo, hc, mend, put, get]
  rw [hc, ht]
  rintro e W2 ⟨hO, rfl, hst⟩
  obtain ⟨cs, ed, hcs, ocs⟩ := encD_cells (digest [97, 98]) (digest_length _)
  simp only [if_true]
  rw [ed]
  have Ed := Lib.hid ed
  clear ed
  have hz2 := hO.size
  have hst0 := hst
  have hB2 : Below w.heap.size w W2 := ⟨hO.os.trans hB1.os, hO.tape.trans hB1.tape, hO.output.trans hB1.output, Nat.le_trans hB1.size hO.size, fun i hi => (hO.block i (by omega) (fun h => by omega)).trans (hB1.block i hi)⟩
  replace hst := hst.weak (G := fun g => w.heap.size ≤ g) (fun i hi hf => hf.1)
  clear hs1 hbs hR2 hO hst0 hR1 hs hB hB1
  go_wp2_with (refine wpList_store_row rfl 29 (.tmp 2) (.tmp 16) rfl W2.heap.size cs rfl rfl 29 _ (Blk.new W2 29 (Array.replicate 32 (B 0))) (by rw [hcs]; exact dig_info) (by rw [hcs]; rfl) ocs ?_
               change wpList _ _ _ _ _ ((W2.alloc (.cells (Array.replicate 32 (B 0)) 29)).setRow W2.heap.size cs)
               have hD1 := (box_facts W2 cs).1
               have hB3 := (box_facts W2 cs).2
               generalize (W2.alloc (.cells (Array.replicate 32 (B 0)) 29)).setRow W2.heap.size cs = W3 at hD1 hB3 ⊢)
  have hB4 : Below w.heap.size w (W3.alloc (.cells #[.int .u8 99, .int .u8 100] 5 (2, 3))) := (hB2.trans (hB3.mono hB2.size)).alloc (Nat.le_trans hB2.size hB3.size) _
  have h23 := hB3.size
  have h21 := hD1.lt
  have hs1 := ((hst.weak (G := fun g => w.heap.size ≤ g ∧ g ≠ W3.heap.size ∧ g ≠ W2.heap.size) (fun i hi hf => ⟨hf, by omega, by omega⟩)).below hB3).below ((Below.refl W3.heap.size W3).alloc (Nat.le_refl _) (.cells #[.int .u8 99, .int .u8 100] 5 (2, 3)))
  have hz3 : (W3.alloc (.cells #[.int .u8 99, .int .u8 100] 5 (2, 3))).heap.size = W3.heap.size + 1 := by simp
  have hwsz := hB2.size
  have hbs : Bs (fun g => w.heap.size ≤ g ∧ g ≠ W3.heap.size ∧ g ≠ W2.heap.size) (W3.alloc (.cells #[.int .u8 99, .int .u8 100] 5 (2, 3))) (.slice (some ⟨W3.heap.size, 0, none⟩) 2 2) [99, 100] := by
    refine ⟨_, 2, rfl, by simp, by simp, fun _ => ⟨W3.heap.size, 0, rfl, by omega, fun h => h.2.1 rfl, fun j hj => ?_⟩⟩
    simp only [List.length_cons, List.length_nil] at hj
    rw [World.cell?_alloc_mark]
    rcases j with _ | _ | j
    · rfl
    · rfl
    · omega
  have hR2 := hR.below hB4
  have hD2 := hD1.alloc (.cells #[.int .u8 99, .int .u8 100] 5 (2, 3))
  generalize W3.alloc (.cells #[.int .u8 99, .int .u8 100] 5 (2, 3)) = W4 at hB4 hs1 hbs hR2 hz3 hD2 ⊢
  have hm : tot [(digest [97, 98], [97, 98])] = 2 := rfl
  refine (put_any _ s 3 [(digest [97, 98], [97, 98])] _ [99, 100] W4 (fun i hi => ⟨by omega, by omega, by omega⟩) hR2 (fun h => hrf h.1) hbs hs1 (by omega) (by omega) (by rw [hm]; simp)).mono ?_
  have hg : get [(digest [97, 98], [97, 98])] (digest [99, 100]) = none := by
    rw [get_none]
    intro x hx
    rw [List.mem_singleton.1 hx]
    exact fun e => ab_ne_cd e.symm
  have hc2 : putCode [(digest [97, 98], [97, 98])] 3 [99, 100] = 3 := by
    unfold putCode
    rw [hm, hg]
    rfl
  have ht2 : putTo [(digest [97, 98], [97, 98])] 3 [99, 100] = [(digest [97, 98], [97, 98])] := by
    unfold putTo
    rw [hc2]
    rfl
  rw [hc2, ht2, hm]
  rintro e W5 ⟨hO, rfl, hst5⟩
  have hB5 : Below w.heap.size w W5 := ⟨hO.os.trans hB4.os, hO.tape.trans hB4.tape, hO.output.trans hB4.output, Nat.le_trans hB4.size hO.size, fun i hi => (hO.block i (by have := hB4.size; omega) (fun h => by omega)).trans (hB4.block i hi)⟩
  have hD5 := hD2.off hO (fun h => h.2.2 rfl)
  have hR5 := hR.below hB5
  obtain ⟨zs, ez⟩ : ∃ zs : Array Value, zs = Array.replicate 32 (B 0) := ⟨_, rfl⟩
  have hzs : zs.size = 32 := by rw [ez]; rfl
  have ozs : zs.all (·.oneCell') = true := by rw [ez]; kernel_rfl
  have ec : (if (3 : Int) = 0 then encD (digest [99, 100]) else Value.agg (Array.replicate 32 (B 0))) = .agg zs := by rw [ez]; rfl
  rw [ec]
  clear ez ec hO hs1 hst hbs hR2 hD2 hD1 hB4 hB3 hB2
  go_wp2_with (first
    | (refine wpList_store_row rfl 29 (.tmp 4) (.tmp 23) rfl W5.heap.size zs rfl rfl 29 _ (Blk.new W5 29 (Array.replicate 32 (B 0))) (by rw [hzs]; exact dig_info) (by rw [hzs]; rfl) ozs ?_
       change wpList _ _ _ _ _ ((W5.alloc (.cells (Array.replicate 32 (B 0)) 29)).setRow W5.heap.size zs)
       have hD6 := (box_facts W5 zs).1
       have hB6 := (box_facts W5 zs).2
       generalize (W5.alloc (.cells (Array.replicate 32 (B 0)) 29)).setRow W5.heap.size zs = W6 at hD6 hB6 ⊢)
    | (refine wpList_load_row rfl 29 (.tmp 2) rfl W2.heap.size rfl 29 cs (0, 0) _ (hD5.below hB6 hD5.lt) Tryd.underlying29 rfl (by rw [hcs]; exact dig_info) ?_))
  have hst6 := hst5.below hB6
  have hB7 : Below w.heap.size w W6 := hB5.trans (hB6.mono hB5.size)
  rw [← Ed.out]
  refine (get_any _ s 3 2 [(digest [97, 98], [97, 98])] (digest [97, 98]) (digest_length _) W6 (hR5.below hB6) hst6 (fun c hc => ?_)).mono ?_
  · rw [show get [(digest [97, 98], [97, 98])] (digest [97, 98]) = some [97, 98] from by simp [get]] at hc
    injection hc with hc
    subst hc; simp
  rw [show get [(digest [97, 98], [97, 98])] (digest [97, 98]) = some [97, 98] from by simp [get]]
  dsimp only
  rintro e W7 ⟨hB8, hv'⟩
  rw [if_pos rfl] at hv'
  obtain ⟨v, rfl, hv⟩ := hv'
  rw [Ed.out]
  have hst7 := hst6.below hB8
  have hB9 : Below w.heap.size w W7 := hB7.trans (hB8.mono hB7.size)
  have hstr := str_own (own_base hv (Nat.zero_le _))
  clear hv hst6 hst5 hB5 hD5 hR5 hB6 hB8 hB7
  go_wp2_with (first
    | (go_at_call 8; refine (bytes_any _ s 3 2 _ _ hst7).mono ?_; rintro e w' ⟨rfl, rfl⟩)
    | (go_at_call 20; refine (count_any _ s 3 2 _ _ hst7).mono ?_; rintro e w' ⟨rfl, rfl⟩))
  go_ret
  exact ⟨rfl, hB9⟩
end Go.Proofs.YtmjaclgbagogfaaDoor
