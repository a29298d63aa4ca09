/- What (*sha.Hash).Sum and sha.Sum do: the digest. -/
import Derived.Test.YtmjaclgbagogfaaDoorShaC
namespace Go.Proofs.YtmjaclgbagogfaaDoor
open Go.RowKit Go.Proofs.YtmjaclgbagogfaaDoor.Sha

/-- A digest as a value. -/
def encD (d : List UInt8) : Value := .agg (d.map B).toArray
def nOf (w : World) (C : Nat) : Nat := match w.cell? ⟨C, 73, none⟩ with | some (.int _ n) => n.toNat | _ => 0
theorem HS.n_cell {w : World} {hb : Nat} {p : St × List UInt8} {n : Int} (h : HS w hb p n) : w.cell? ⟨hb, 73, none⟩ = some (I n) := by
  obtain ⟨_, rest, hr, _, hK⟩ := h
  exact (hK.cell 73).trans (hc_n _ _ _ _ hr)
theorem HS.used_cell {w : World} {hb : Nat} {p : St × List UInt8} {n : Int} (h : HS w hb p n) : w.cell? ⟨hb, 72, none⟩ = some (I p.2.length) := by
  obtain ⟨_, rest, hr, _, hK⟩ := h
  exact (hK.cell 72).trans (hc_used _ _ _ _ hr)
theorem HS.keep {w w' : World} {hb : Nat} {p : St × List UInt8} {n : Int} (h : HS w hb p n) (hk : w'.heap[hb]? = w.heap[hb]?) : HS w' hb p n := by
  obtain ⟨h1, rest, hr, h2, hK⟩ := h
  exact ⟨h1, rest, hr, h2, hk.trans hK⟩
theorem HS.lt {w : World} {hb : Nat} {p : St × List UInt8} {n : Int} (h : HS w hb p n) : hb < w.heap.size := by
  obtain ⟨_, rest, _, _, hK⟩ := h
  exact hK.lt
theorem below_of_only {B : Nat} {a w w' : World} {g : Nat} (h : Below B a w) (k : w.grownBy w' (some g)) (hB : B ≤ w.heap.size) (hg : B ≤ g) : Below B a w' :=
  h.grown k hB (fun _ e => by injection e with e; omega)
/-- The cells of a hash, whole. -/
theorem HS.load {w : World} {hb : Nat} {p : St × List UInt8} {n : Int} (h : HS w hb p n) : ∃ cs : Array Value, Blk w hb 90 cs ∧ cs.size = 74 ∧ cs.all (·.oneCell') = true ∧ ∀ w' C, Blk w' C 90 cs → HS w' C p n := by
  obtain ⟨h1, rest, hr, h2, hK⟩ := h
  refine ⟨_, hK, ?_, ?_, fun w' C hC => ⟨h1, rest, hr, h2, hC⟩⟩
  · have e8 : p.1.words.length = 8 := rfl
    rw [hc_list]; simp [hr, e8]
  · rw [hc_list, Array.all_eq_true_iff_forall_mem]
    intro v hv
    simp only [List.mem_toArray, List.mem_append, List.mem_map, List.mem_cons, List.not_mem_nil, or_false] at hv
    rcases hv with ⟨c, _, rfl⟩ | ⟨c, _, rfl⟩ | rfl | rfl <;> rfl
theorem hash_info : (Tryd.prog.info? 90).map (·.size) = some 74 := by kernel_rfl
theorem dig_info : (Tryd.prog.info? 29).map (·.size) = some 32 := by kernel_rfl
theorem copy_facts (w : World) (D Z cs : Array Value) (t t' : TypeId) (W : World) (h : ((w.alloc (.cells D t)).alloc (.cells Z t')).setRow (w.heap.size + 1) cs = W) :
    Below w.heap.size w W ∧ Blk W w.heap.size t D ∧ Blk W (w.heap.size + 1) t' cs ∧ W.heap.size = w.heap.size + 2 := by
  subst h
  refine ⟨below_setRow (((Below.refl _ w).alloc (Nat.le_refl _) _).alloc (by simp) _) (by omega) _, ?_, ?_, by simp⟩
  · unfold Blk; rw [setRow_other _ _ _ _ (by omega)]; exact heap_alloc2_old w _ _
  · exact setRow_heap _ _ _ _ _ _ (heap_alloc2_new w _ _)

/-- The size's bytes when k of them are there. -/
def sizeArr (n k : Nat) : Array Value := ((List.range 8).map fun i => if i < k then B (UInt8.ofNat (n * 8 % 18446744073709551616 / 2 ^ (56 - 8 * i))) else B 0).toArray
theorem size_get (n k : Nat) (h : k < 8) : (sizeArr n k)[k]? = some (B 0) := by simp [sizeArr, h]
theorem size_set (n k : Nat) (h : k < 8) : (sizeArr n k).setIfInBounds k (B (UInt8.ofNat (n * 8 % 18446744073709551616 / 2 ^ (56 - 8 * k)))) = sizeArr n (k + 1) := by
  rcases below8 h with rfl | rfl | rfl | rfl | rfl | rfl | rfl | rfl <;> rfl
theorem size_all (n k : Nat) (h : k < 8) : (sizeArr n 8)[k]? = some (B ((size8 n).getD k 0)) := by
  rcases below8 h with rfl | rfl | rfl | rfl | rfl | rfl | rfl | rfl <;> rfl
theorem shr_size (n k : Nat) (h : k < 8) (hn : n ≤ 1125899906842624) : (n : Int) * 8 / 2 ^ (56 - 8 * k) % 256 = ((UInt8.ofNat (n * 8 % 18446744073709551616 / 2 ^ (56 - 8 * k))).toNat : Int) := by
  rw [Nat.mod_eq_of_lt (by omega)]
  rcases below8 h with rfl | rfl | rfl | rfl | rfl | rfl | rfl | rfl <;> (simp [UInt8.toNat_ofNat'] <;> omega)
/-- The digest's bytes when k words are there. -/
def outArr (s : St) (k : Nat) : Array Value := (((s.words.take k).flatMap bytes4).map B ++ List.replicate (32 - 4 * k) (B 0)).toArray
theorem out_get (s : St) (k j : Nat) (h : k < 8) (hj : j < 4) : (outArr s k)[4 * k + j]? = some (B 0) := by
  have : j = 0 ∨ j = 1 ∨ j = 2 ∨ j = 3 := by omega
  rcases below8 h with rfl | rfl | rfl | rfl | rfl | rfl | rfl | rfl <;> rcases this with rfl | rfl | rfl | rfl <;> rfl
theorem out_set (s : St) (k : Nat) (h : k < 8) : ((((outArr s k).setIfInBounds (4 * k) (B (UInt8.ofNat ((s.words.getD k 0).toNat / 16777216)))).setIfInBounds (4 * k + 1) (B (UInt8.ofNat ((s.words.getD k 0).toNat / 65536)))).setIfInBounds (4 * k + 2)
    (B (UInt8.ofNat ((s.words.getD k 0).toNat / 256)))).setIfInBounds (4 * k + 3) (B (UInt8.ofNat (s.words.getD k 0).toNat)) = outArr s (k + 1) := by
  rcases below8 h with rfl | rfl | rfl | rfl | rfl | rfl | rfl | rfl <;> rfl
theorem out_all (s : St) : outArr s 8 = (s.out.map B).toArray := rfl
theorem idx_words (s : St) (k : Nat) (h : k < 8) (w : World) : (Instr.index 62 (.agg #[U s.a, U s.b, U s.c, U s.d, U s.e, U s.f, U s.g, U s.h]) (.int .i64 (k : Int))).run Tryd.prog w = .ok (U (s.words.getD k 0)) w := by
  rcases below8 h with rfl | rfl | rfl | rfl | rfl | rfl | rfl | rfl <;> kernel_rfl
theorem HS.words {w : World} {hb : Nat} {p : St × List UInt8} {n : Int} (h : HS w hb p n) :
    w.cell? ⟨hb, 0, none⟩ = some (U p.1.a) ∧ w.cell? ⟨hb, 1, none⟩ = some (U p.1.b) ∧ w.cell? ⟨hb, 2, none⟩ = some (U p.1.c) ∧ w.cell? ⟨hb, 3, none⟩ = some (U p.1.d) ∧
    w.cell? ⟨hb, 4, none⟩ = some (U p.1.e) ∧ w.cell? ⟨hb, 5, none⟩ = some (U p.1.f) ∧ w.cell? ⟨hb, 6, none⟩ = some (U p.1.g) ∧ w.cell? ⟨hb, 7, none⟩ = some (U p.1.h) := by
  obtain ⟨_, rest, _, _, hK⟩ := h
  exact hash_cells hK

theorem byte3 (x : W32) : (x.toNat : Int) / 16777216 = ((UInt8.ofNat (x.toNat / 16777216)).toNat : Int) := by
  have := x.isLt
  simp [UInt8.toNat_ofNat']; omega
theorem byte2 (x : W32) : (x.toNat : Int) / 65536 % 256 = ((UInt8.ofNat (x.toNat / 65536)).toNat : Int) := by
  simp [UInt8.toNat_ofNat']
theorem byte1 (x : W32) : (x.toNat : Int) / 256 % 256 = ((UInt8.ofNat (x.toNat / 256)).toNat : Int) := by
  simp [UInt8.toNat_ofNat']
theorem byte0 (x : W32) : (x.toNat : Int) % 256 = ((UInt8.ofNat x.toNat).toNat : Int) := by
  simp [UInt8.toNat_ofNat']

/-- One byte, out of a new block. -/
theorem write_one (C : Nat) (p : St × List UInt8) (n : Int) (c : UInt8) (W : World) (hn0 : 0 ≤ n) (hn : n + 1 ≤ 1152921504606846976)
    (hg : 0 < W.heap.size) (hgC : 0 ≠ C)
    (cg : ∀ i, i < 64 → W.cell? ⟨0, i, none⟩ = some (U (BitVec.ofNat 32 (K.getD i 0))))
    (hH : HS W C p n) :
    Calls Tryd.prog 41 #[.pointer (some ⟨C, 0, none⟩), .slice (some ⟨W.heap.size, 0, none⟩) 1 1] (W.alloc (.cells #[B c] 5)) fun e w' => e = .returned (.tuple #[]) ∧
      HS w' C ([c].foldl feed p) (n + 1) ∧ W.grownBy w' (some C) := by
  have hC := hH.lt
  refine (write_any C p n (some ⟨W.heap.size, 0, none⟩) 1 [c] (W.alloc (.cells #[B c] 5)) hn0 (by simpa using hn) (by simp) (by rw [World.size_alloc]; omega) hgC
    (fun i hi => (World.cell?_alloc_lt W _ _ hg).trans (cg i hi)) (fun _ => ⟨W.heap.size, 0, rfl, by simp, by omega, fun j hj => ?_⟩) (hH.keep (Below.heap_alloc W _ C hC))).mono ?_
  · obtain rfl : j = 0 := by simpa using hj
    exact ((Blk.new W 5 #[B c]).cell 0).trans rfl
  · rintro e w' ⟨he, h1, h2⟩
    exact ⟨he, by simpa using h1, only_trans (only_alloc (World.grownBy.refl W _) _) (by refine ⟨h2.os, h2.tape, h2.output, h2.size, h2.block⟩)⟩

set_option maxRecDepth 100000 in
set_option maxHeartbeats 4000000 in
theorem hsum_any (hb : Nat) (l : List UInt8) (w : World) (hl : l.length ≤ 1125899906842624)
    (hg : 0 < w.heap.size)
    (cg : ∀ i, i < 64 → w.cell? ⟨0, i, none⟩ = some (U (BitVec.ofNat 32 (K.getD i 0))))
    (hH : HS w hb (l.foldl feed (init, [])) l.length) :
    Calls Tryd.prog 42 #[.pointer (some ⟨hb, 0, none⟩)] w fun e w' => e = .returned (encD (digest l)) ∧ Below w.heap.size w w' := by
  obtain ⟨cs, hK, hsz, hone, hC⟩ := hH.load
  have hlt := hK.lt
  have Hsz := Lib.hid hsz
  have Hone := Lib.hid hone
  clear hsz hone
  go_enter Tryd.func42, Tryd.ntmps42
  go_wp2_with (first
    | (refine wpList_load_row rfl 90 (.tmp 14) rfl hb rfl 90 cs (0, 0) _ (hK.alloc _) Tryd.underlying90 rfl (by rw [Hsz.out]; exact hash_info) ?_)
    | (refine wpList_store_row rfl 90 (.tmp 3) (.tmp 15) rfl (w.heap.size + 1) cs rfl rfl 90 _ (heap_alloc2_new w _ _) (by rw [Hsz.out]; exact hash_info) (by rw [Hsz.out]; rfl) Hone.out ?_
       generalize hWe : World.setRow _ _ _ = W
       obtain ⟨hB, hR, hCb, hWs⟩ := copy_facts w _ _ _ _ _ W hWe
       have hHS := hC W _ hCb
       have HWs := Lib.hid hWs
       have cn := hHS.n_cell
       clear hWe hWs hCb))
  refine (write_one (w.heap.size + 1) _ _ 128 W (by omega) (by omega) (by have := hB.size; omega) (by omega) (fun i hi => (hB.cell (p := ⟨_, i, none⟩) hg).trans (cg i hi)) hHS).mono ?_
  rintro e W1 ⟨rfl, hH1, hO1⟩
  have hB1 := below_of_only hB hO1 hB.size (by omega)
  have hR1 := hR.grown hO1 (by simp)
  have hz1 := hO1.size
  have Hz1 : w.heap.size + 2 ≤ W1.heap.size := by have := HWs.out; omega
  clear hz1
  have hl1 : ((l.length : Int) + 1) = ((l.length + 1 : Nat) : Int) := by omega
  rw [hl1] at hH1
  clear hl1
  have e0 : [(128 : UInt8)].foldl feed (l.foldl feed (init, [])) = (l ++ 128 :: List.replicate 0 0).foldl feed (init, []) := by rw [List.foldl_append]; rfl
  clear hHS hB hR hO1 cn
  go_wp2_with fail
  go_loopw [22] (fun _ wr => ∃ j : Nat, j ≤ zeros l.length ∧ HS wr (w.heap.size + 1) ((l ++ 128 :: List.replicate j 0).foldl feed (init, [])) ((l.length + 1 + j : Nat) : Int) ∧ Below w.heap.size w wr ∧ Blk wr w.heap.size 29 (Array.replicate 32 (B 0)) ∧ w.heap.size + 2 ≤ wr.heap.size)
    (fun _ wr => l.length + 1 + zeros l.length - nOf wr (w.heap.size + 1))
  case atStart => exact ⟨0, by omega, e0 ▸ hH1, hB1, hR1, Hz1⟩
  case round =>
    clear hH1 hB1 hR1 Hz1 e0
    obtain ⟨j, hj, hH, hB, hR, hz⟩ := hrel
    have hz63 : zeros l.length < 64 := by unfold zeros; omega
    have cu := hH.used_cell
    have hul : (((l ++ 128 :: List.replicate j 0).foldl feed (init, [])).2.length) = (l.length + 1 + j) % 64 := by
      rw [feed_len _ _ (by simp)]; simp; omega
    rw [hul] at cu
    by_cases hlt : j < zeros l.length
    · have ht : (((((l.length + 1 + j) % 64 : Nat) : Int)) != 56) = true := by
        rw [bne_iff_ne]; unfold zeros at hlt; omega
      go_wp2_with fail
      refine (write_one (w.heap.size + 1) _ _ 0 wr (by omega) (by omega) (by have := hB.size; omega) (by omega) (fun i hi => (hB.cell (p := ⟨_, i, none⟩) hg).trans (cg i hi)) hH).mono ?_
      rintro e W1 ⟨rfl, hH1, hO1⟩
      have hB1 := below_of_only hB hO1 hB.size (by omega)
      have hR1 := hR.grown hO1 (by simp)
      have hz1 := hO1.size
      go_wp2_with fail
      refine ⟨⟨j + 1, by omega, ?_, hB1, hR1, by omega⟩, ?_⟩
      · have e1 : l ++ 128 :: List.replicate (j + 1) 0 = (l ++ 128 :: List.replicate j 0) ++ [0] := by
          rw [List.replicate_succ']; simp
        rw [e1, List.foldl_append]
        exact hH1
      · have n1 := hH1.n_cell
        have n0 := hH.n_cell
        simp only [nOf, n1, n0]
        omega
    · have ht : (((((l.length + 1 + j) % 64 : Nat) : Int)) != 56) = false := by
        rw [bne_eq_false_iff_eq]; unfold zeros at hlt hj; omega
      obtain rfl : j = zeros l.length := by omega
      clear hlt hj
      go_wp2_with fail
      obtain ⟨S5, hS5⟩ : ∃ S5, S5 = wr.heap.size := ⟨_, rfl⟩
      rw [← hS5]
      go_loopw [27, 6] (fun i _ wr => ∃ k : Nat, k ≤ 8 ∧ i = I k ∧ HS wr (w.heap.size + 1) ((l ++ 128 :: List.replicate (zeros l.length) 0).foldl feed (init, [])) ((l.length + 1 + zeros l.length : Nat) : Int) ∧ Below w.heap.size w wr ∧ Blk wr w.heap.size 29 (Array.replicate 32 (B 0)) ∧ Blk wr S5 91 (sizeArr l.length k) ∧ S5 + 1 ≤ wr.heap.size)
        (fun i _ _ => 8 - (intOf i).toNat)
      case atStart => exact ⟨0, by omega, rfl, hH.keep (Below.heap_alloc _ _ _ (by omega)), hB.alloc hB.size _, hR.alloc _, hS5 ▸ Blk.new _ _ _, by rw [hS5]; simp⟩
      case round =>
        have hS5' : w.heap.size + 2 ≤ S5 := by omega
        clear hH hB hR hz hS5 cu hul ht
        obtain ⟨k, hk, rfl, hH, hB, hR, hS, hz⟩ := hrel
        by_cases hlt : k < 8
        · have cS := (hS.cell k).trans (size_get l.length k hlt)
          have fS := hS.frozen k
          have k0 : 0 ≤ (k : Int) := by omega
          have k8 : (k : Int) < 8 := by omega
          go_wp2_with fail
          rw [shr_size _ _ hlt hl]
          refine ⟨⟨k + 1, by omega, by go_num, hH.keep (Below.heap_setCell _ _ _ _ (by simp; omega)), hB.setCell (by simp; omega) _, hR.far (by simp; omega) _, ?_, by simpa using hz⟩, by simp [intOf]; omega⟩
          exact (size_set l.length k hlt) ▸ hS.set_ k _
        · obtain rfl : k = 8 := by omega
          clear hlt hk
          simp only [Int.cast_ofNat_Int]
          go_wp2_with fail
          refine (write_any (w.heap.size + 1) _ _ (some ⟨S5, 0, none⟩) 8 (size8 l.length) wr (by omega) (by have e8 : (size8 l.length).length = 8 := rfl; unfold zeros; omega) (Nat.le_refl 8) (by have := hB.size; omega) (by omega)
            (fun i hi => (hB.cell (p := ⟨_, i, none⟩) hg).trans (cg i hi)) (fun _ => ⟨S5, 0, rfl, hS.lt, by omega, fun j hj => by rw [Nat.zero_add]; exact (hS.cell j).trans (size_all _ _ hj)⟩) hH).mono ?_
          rintro e W2 ⟨rfl, hH2, hO2⟩
          have hB2 := below_of_only hB hO2 hB.size (by omega)
          have hR2 := hR.grown hO2 (by simp)
          have hz2 : w.heap.size + 2 ≤ W2.heap.size := by have := hO2.size; omega
          have ed : ((l ++ 128 :: List.replicate (zeros l.length) 0).foldl feed (init, [])) = ((l ++ 128 :: List.replicate (zeros l.length) 0).foldl feed (init, [])) := rfl
          rw [← List.foldl_append, show (l ++ 128 :: List.replicate (zeros l.length) 0) ++ size8 l.length = pad l by simp [pad]] at hH2
          have hdg : digest l = ((pad l).foldl feed (init, [])).1.out := rfl
          generalize (pad l).foldl feed (init, []) = q at hH2 hdg
          obtain ⟨st, pd⟩ := q
          obtain ⟨h0, h1, h2, h3, h4, h5, h6, h7⟩ := hH2.words
          have ix := idx_words st
          have hcl : w.heap.size + 1 < W2.heap.size := by omega
          have g0 := fun o => cell_new (o := o) h0 hcl
          have g1 := fun o => cell_new (o := o) h1 hcl
          have g2 := fun o => cell_new (o := o) h2 hcl
          have g3 := fun o => cell_new (o := o) h3 hcl
          have g4 := fun o => cell_new (o := o) h4 hcl
          have g5 := fun o => cell_new (o := o) h5 hcl
          have g6 := fun o => cell_new (o := o) h6 hcl
          have g7 := fun o => cell_new (o := o) h7 hcl
          clear h0 h1 h2 h3 h4 h5 h6 h7
          have Hdg := Lib.hid hdg
          clear hH hB hR hS hz hO2 ed hdg
          go_wp2_with fail
          obtain ⟨S7, hS7⟩ : ∃ S7, S7 = W2.heap.size := ⟨_, rfl⟩
          rw [← hS7]
          go_loopw [43, 8, 9] (fun i _ _ wr => ∃ k : Nat, k ≤ 8 ∧ i = I k ∧ Below w.heap.size w wr ∧ Blk wr w.heap.size 29 (Array.replicate 32 (B 0)) ∧ Blk wr S7 29 (outArr st k))
            (fun i _ _ _ => 8 - (intOf i).toNat)
          case atStart => exact ⟨0, by omega, rfl, hB2.alloc hB2.size _, hR2.alloc _, hS7 ▸ Blk.new _ _ _⟩
          case round =>
            have hS7' : w.heap.size + 2 ≤ S7 := by omega
            clear hB2 hR2 hz2 hS7 g0 g1 g2 g3 g4 g5 g6 g7 hcl hH2
            obtain ⟨k, hk, rfl, hB, hR, hD⟩ := hrel
            by_cases hlt : k < 8
            · have c0 := (hD.cell (4 * k)).trans (out_get st k 0 hlt (by omega))
              have c1 := (hD.cell (4 * k + 1)).trans (out_get st k 1 hlt (by omega))
              have c2 := (hD.cell (4 * k + 2)).trans (out_get st k 2 hlt (by omega))
              have c3 := (hD.cell (4 * k + 3)).trans (out_get st k 3 hlt (by omega))
              have f0 := hD.frozen (4 * k)
              have f1 := hD.frozen (4 * k + 1)
              have f2 := hD.frozen (4 * k + 2)
              have f3 := hD.frozen (4 * k + 3)
              have ixk := ix k hlt
              clear ix
              go_wp2_with fail
              rw [byte3, byte2, byte1, byte0]
              refine ⟨⟨k + 1, by omega, by go_num, ?_, ?_, ?_⟩, by simp [intOf]; omega⟩
              · exact (((hB.setCell (by simp; omega) _).setCell (by simp; omega) _).setCell (by simp; omega) _).setCell (by simp; omega) _
              · exact (((hR.far (by simp; omega) _).far (by simp; omega) _).far (by simp; omega) _).far (by simp; omega) _
              · have e := out_set st k hlt
                simp only [List.getD_eq_getElem?_getD] at e
                rw [← e]
                exact (((hD.set_ (4 * k) _).set_ (4 * k + 1) _).set_ (4 * k + 2) _).set_ (4 * k + 3) _
            · obtain rfl : k = 8 := by omega
              clear hlt hk ix
              rw [out_all, ← Hdg.out] at hD
              have hone : ((digest l).map B).toArray.all (·.oneCell') = true := by
                rw [Array.all_eq_true_iff_forall_mem]
                intro v hv
                simp only [List.mem_toArray, List.mem_map] at hv
                obtain ⟨c, _, rfl⟩ := hv; rfl
              have hsz : ((digest l).map B).toArray.size = 32 := by simp [digest_length]
              have Hone2 := Lib.hid hone
              have Hsz2 := Lib.hid hsz
              clear hone hsz
              simp only [Int.cast_ofNat_Int]
              go_wp2_with (first
                | (refine wpList_load_row rfl 29 (.tmp 7) rfl S7 rfl 29 _ (0, 0) _ hD Tryd.underlying29 rfl (by rw [Hsz2.out]; exact dig_info) ?_)
                | (refine wpList_store_row rfl 29 (.tmp 2) (.tmp 74) rfl w.heap.size ((digest l).map B).toArray rfl rfl 29 _ hR (by rw [Hsz2.out]; exact dig_info) (by rw [Hsz2.out]; rfl) Hone2.out ?_))
              refine bodyPost_ret (results_cell_row rfl _ _ w.heap.size 29 _ (0, 0) _ rfl (hR.setRow _) Tryd.underlying29 rfl (by rw [Hsz2.out]; exact dig_info)) rfl ?_
              exact ⟨rfl, below_setRow hB (Nat.le_refl _) _⟩
end Go.Proofs.YtmjaclgbagogfaaDoor
