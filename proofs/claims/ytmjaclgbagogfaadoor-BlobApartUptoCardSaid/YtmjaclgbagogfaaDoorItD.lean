/- A store's digests in order: the compare, the sort. -/
import Derived.Test.YtmjaclgbagogfaaDoorItC
import Derived.Test.YtmjaclgbagogfaaDoorShelfD
import Derived.Lib.Bytealg
import Derived.Lib.BytesEntry
import Derived.Laws.Externs
namespace Go.Proofs.YtmjaclgbagogfaaDoor
open Go.RowKit Go.Maps Go.MapKept Go.Proofs.YtmjaclgbagogfaaDoor.Sha Go.Sort Go.Shelf

/-- The order of digests. -/
def lexc (a b : D32) : Int := Lib.compareBytes a.1 b.1
theorem cb_refl : ∀ a : List UInt8, Lib.compareBytes a a = 0
  | [] => rfl
  | a :: l => by unfold Lib.compareBytes; rw [if_neg (UInt8.lt_irrefl a), if_neg (UInt8.lt_irrefl a)]; exact cb_refl l
theorem cb_lt : ∀ (a b : List UInt8), Lib.compareBytes a b < 0 ↔ a < b
  | [], [] => by simp [Lib.compareBytes]
  | [], _ :: _ => by simp [Lib.compareBytes]
  | _ :: _, [] => by simp [Lib.compareBytes]
  | a :: l, b :: k => by
    unfold Lib.compareBytes
    rw [List.cons_lt_cons_iff]
    by_cases h1 : a < b
    · rw [if_pos h1]; simp [h1]
    · rw [if_neg h1]
      by_cases h2 : b < a
      · rw [if_pos h2]
        constructor
        · intro h; omega
        · rintro (h | ⟨rfl, _⟩)
          · exact absurd h h1
          · exact absurd h2 h1
      · rw [if_neg h2, cb_lt l k]
        have e : a = b := UInt8.le_antisymm (UInt8.not_lt.1 h2) (UInt8.not_lt.1 h1)
        subst e
        simp [h1]
theorem swo : SWO (ltOf lexc) where
  irrefl x := by simp [ltOf, lexc, cb_lt]
  trans x y z h1 h2 := by
    simp only [ltOf, lexc, decide_eq_true_eq, cb_lt] at *
    exact List.lt_trans h1 h2
  ntrans x y z h1 h2 := by
    simp only [ltOf, lexc, decide_eq_false_iff_not, cb_lt, List.not_lt] at *
    exact List.le_trans h2 h1
/-- bytes.Compare's inner text on two whole blocks of 32 bytes. -/
theorem run_cmp (a b : D32) (g1 g2 c1 c2 : Nat) (w : World) {t : TypeId} (h1 : Blk w g1 t (a.1.map B).toArray) (h2 : Blk w g2 t (b.1.map B).toArray) :
    (callFunc 54 #[.slice (some ⟨g1, 0, none⟩) 32 c1, .slice (some ⟨g2, 0, none⟩) 32 c2]).run Tryd.prog w = .ok (.value (.int .i64 (lexc a b))) w := by
  have hl : ∀ (d : D32) (g : Nat), Blk w g t (d.1.map B).toArray → (Extern.Bytes.bytesOf (.slice (some ⟨g, 0, none⟩) 32 0)).run Tryd.prog w = .ok ⟨d.1.toArray⟩ w := by
    intro d g h
    have := Lib.run_loadBytesX (P := Tryd.prog) w (d.1.map fun x => (x.toNat : Int)) ⟨g, 0, none⟩ .empty (fun j x hx => by
      rw [add_none, Nat.zero_add, h.cell j]
      rw [List.getElem?_map] at hx
      obtain ⟨y, hy, rfl⟩ := Option.map_eq_some_iff.1 hx
      simp [hy])
    rw [List.length_map, d.2] at this
    simp only [Extern.Bytes.bytesOf]
    rw [this]
    have e : Lib.bytesOf (d.1.map fun x => (x.toNat : Int)) = d.1 := by
      unfold Lib.bytesOf
      rw [List.map_map]
      conv => rhs; rw [← List.map_id d.1]
      apply List.map_congr_left
      intro x _
      simp
    rw [e]
    simp
  have hl' : ∀ (d : D32) (g c : Nat), Blk w g t (d.1.map B).toArray → (Extern.Bytes.bytesOf (.slice (some ⟨g, 0, none⟩) 32 c)).run Tryd.prog w = .ok ⟨d.1.toArray⟩ w := fun d g c h => hl d g h
  rw [run_callFunc_extern Tryd.func54 (by kernel_rfl) (by kernel_rfl) (by kernel_rfl) (e := Extern.BytealgCompare.compare) (by kernel_rfl)]
  have hc : Extern.BytealgCompare.compare #[.slice (some ⟨g1, 0, none⟩) 32 c1, .slice (some ⟨g2, 0, none⟩) 32 c2] = (do
    let x ← Extern.Bytes.bytesOf (.slice (some ⟨g1, 0, none⟩) 32 c1)
    let y ← Extern.Bytes.bytesOf (.slice (some ⟨g2, 0, none⟩) 32 c2)
    pure (goInt (Extern.BytealgCompare.cmp x y))) := rfl
  rw [hc]
  simp only [Sem.run_bind, hl' a g1 c1 h1, hl' b g2 c2 h2, Result.andThen, Sem.run_pure, goInt]
  rw [Lib.cmp_eq]
  rfl
set_option maxHeartbeats 400000 in
theorem bcompare_any (a b : D32) (g1 g2 c1 c2 : Nat) (w : World) {t : TypeId} (h1 : Blk w g1 t (a.1.map B).toArray) (h2 : Blk w g2 t (b.1.map B).toArray) :
    Calls Tryd.prog 48 #[.slice (some ⟨g1, 0, none⟩) 32 c1, .slice (some ⟨g2, 0, none⟩) 32 c2] w fun e w' => e = .returned (.int .i64 (lexc a b)) ∧ w = w' := by
  have hrun := run_cmp a b g1 g2 c1 c2 w h1 h2
  generalize lexc a b = r at hrun ⊢
  clear h1 h2
  go_enter Tryd.func48, Tryd.ntmps48
  go_wp2
  go_ret
  exact ⟨rfl, rfl⟩
set_option maxHeartbeats 400000 in
theorem compare_any (a b : D32) (w : World) :
    Calls Tryd.prog 38 #[.agg (a.1.map B).toArray, .agg (b.1.map B).toArray] w fun e w' => e = .returned (.int .i64 (lexc a b)) ∧ ∃ q os, w' = grow (w.drewN q) os := by
  have hA : Blk ((w.alloc (.cells (a.1.map B).toArray 29)).alloc (.cells (b.1.map B).toArray 29)) w.heap.size 29 (a.1.map B).toArray := (Blk.new w 29 _).alloc _
  have hB : Blk ((w.alloc (.cells (a.1.map B).toArray 29)).alloc (.cells (b.1.map B).toArray 29)) (w.heap.size + 1) 29 (b.1.map B).toArray := by
    have := Blk.new (w.alloc (.cells (a.1.map B).toArray 29)) 29 (b.1.map B).toArray
    rwa [World.size_alloc] at this
  have hcon := fun n => bcompare_any a b w.heap.size (w.heap.size + 1) 32 32 (((w.alloc (.cells (a.1.map B).toArray 29)).alloc (.cells (b.1.map B).toArray 29)).drewN n) (hA.drewN n) (hB.drewN n)
  generalize lexc a b = r at hcon ⊢
  generalize ea : (a.1.map B).toArray = ca at *
  generalize eb : (b.1.map B).toArray = cb at *
  clear ea eb hA hB
  have Hcon := Lib.hid hcon
  clear hcon
  go_enter Tryd.func38, Tryd.ntmps38
  go_wp2_with fail
  go_quiet ((go_at_call 48; exact quiet_left (Hcon.out _)))
  go_wp2
  go_ret
  exact ⟨rfl, nq, _, by rw [alloc_eq_grow, alloc_eq_grow, grow_grow]; rfl⟩
instance d32_inh : Inhabited D32 := ⟨⟨List.replicate 32 0, rfl⟩⟩
def encC (d : D32) : List Value := d.1.map B
theorem encC_len (d : D32) : (encC d).length = 32 := by unfold encC; rw [List.length_map]; exact d.2
theorem dig_isAgg : ∀ w, (isAgg 29).run Tryd.prog w = .ok true w := fun w => by
  unfold isAgg
  rw [Sem.run_bind, run_underlying Tryd.underlying29 w]
  rfl
theorem dig_sizeOf : ∀ w, (Go.sizeOf 29).run Tryd.prog w = .ok 32 w := by
  intro w
  obtain ⟨i, hi, hz⟩ := Option.map_eq_some_iff.1 dig_info
  simp [sizeOf, typeInfo, hi, hz]
theorem holds_digs {w : World} {blk : Nat} {ds : List D32} (hc : ∀ k (h : k < ds.length), w.rangeAt blk (k * 32) (ds[k].1.map B)) (hf : ∀ j, w.frozen? ⟨blk, j, none⟩ = false) : HoldsK encC 32 w blk 0 ds.toArray := by
  intro j hj
  rw [size_flatK] at hj
  have hj' : j < ds.length * 32 := by simpa using hj
  have hk : j / 32 < ds.length := by omega
  refine ⟨?_, hf _⟩
  rw [get_flatK encC 32 ds.toArray j hj]
  have e1 : (ds.toArray[j / 32]! : D32) = ds[j / 32] := by
    rw [getElem!_pos ds.toArray (j / 32) (by simpa using hk)]; simp
  rw [e1]
  have hl : j % 32 < (encC ds[j / 32]).length := by rw [encC_len]; omega
  rw [getElem!_pos (encC ds[j / 32]) (j % 32) hl]
  have := hc (j / 32) hk (j % 32) _ (List.getElem?_eq_getElem (l := ds[j / 32].1.map B) hl)
  rw [show j / 32 * 32 + j % 32 = j by omega] at this
  rw [Nat.zero_add]
  exact this
theorem sort_grown (w : World) (blk m : Nat) (dk : Array D32) (os : Array Obj) : w.grownBy (sortWorldK encC 32 w blk 0 m dk os) (some blk) := by
  refine ⟨rfl, rfl, rfl, ?_, fun i hi hne => ?_⟩
  · simp [sortWorldK, putRowK, putRow, mapBlock, grow]
  · show ((w.heap.modify blk _) ++ os)[i]? = _
    rw [Array.getElem?_append_left (by simpa using hi), Array.getElem?_modify, if_neg (fun e => hne (by rw [e]))]
theorem cmp_lays (blk size : Nat) (w : World) : CmpLays Tryd.prog 38 #[] encC 32 lexc blk 0 size w := fun _ _ _ _ x y => compare_any x y _
theorem sort_any (blk cap : Nat) (ds : List D32) (w : World) (hlen : ds.length ≤ 1099511627776) (hc : ∀ k (h : k < ds.length), w.rangeAt blk (k * 32) (ds[k].1.map B)) (hf : ∀ j, w.frozen? ⟨blk, j, none⟩ = false) (hblk : blk < w.heap.size) :
    Calls Tryd.prog 46 #[.slice (some ⟨blk, 0, none⟩) ds.length cap, .func (.func 38) #[] #[]] w fun e w' => e = .returned (.tuple #[]) ∧
      ∃ ds' : List D32, ds'.Perm ds ∧ ds'.Pairwise (fun a b => ¬ lexc b a < 0) ∧ (∀ k (h : k < ds'.length), w'.rangeAt blk (k * 32) (ds'[k].1.map B)) ∧ w.grownBy w' (some blk) := by
  have hH := holds_digs hc hf
  have hcon := AnyQ.slices_SortFunc Tryd.sortD 32 dig_isAgg dig_sizeOf encC encC_len digs_one lexc swo 38 #[] blk 0 cap ds.toArray w (enters_of Tryd.func38 (by kernel_rfl) rfl) (cmp_lays blk ds.toArray.size w) hH hblk (by simp; omega)
  change Calls Tryd.prog 46 _ _ _ at hcon
  rw [List.size_toArray] at hcon
  refine hcon.mono ?_
  rintro e w' ⟨rfl, d', n, os, hp, hs, rfl⟩
  obtain ⟨hsz, _, hperm⟩ := hp
  have hsz' : d'.size = ds.length := by simpa using hsz
  refine ⟨rfl, d'.toList, ?_, ?_, ?_, sort_grown w blk n d' os⟩
  · have e1 : (d'.extract 0 ds.length).toList = d'.toList := by rw [← hsz']; simp
    have e2 : (ds.toArray.extract 0 ds.length).toList = ds := by simp
    rw [e1, e2] at hperm
    exact hperm
  · rw [List.pairwise_iff_getElem]
    intro i j hi hj hij
    have h1 : i < d'.size := by simpa using hi
    have h2 : j < d'.size := by simpa using hj
    have := hs i j (Nat.zero_le _) hij (by omega)
    rw [getElem!_pos d' j h2, getElem!_pos d' i h1] at this
    simpa [ltOf] using this
  · intro k hk j u hu
    have hk' : k < d'.size := by simpa using hk
    have hh := holdsK_sortWorldK_c encC 32 w blk 0 ds.toArray d' n os hH hblk (by simpa using hsz')
    have := HoldsK.cells hh encC_len hk' j u (by rw [getElem!_pos d' k hk']; simpa [encC] using hu)
    rw [add_none, Nat.zero_add] at this
    exact this
end Go.Proofs.YtmjaclgbagogfaaDoor
