/- A store's Clone. -/
import Derived.Test.YtmjaclgbagogfaaDoorStoS
import Derived.Test.YtmjaclgbagogfaaDoorAwake
namespace Go.Proofs.YtmjaclgbagogfaaDoor
open Go.RowKit Go.Maps Go.MapKept Go.Proofs.YtmjaclgbagogfaaDoor.Sha

/-- The clone's loop: of the store's map (block mb, entries l) dn have been copied into the clone's (block mc). -/
structure Copied (w : World) (c mb mc clk : Nat) (q n : Int) (l dn l' : List Rec) (clk' : Nat) (wr : World) : Prop where
  dn_in : ∀ r ∈ dn, r ∈ l
  dn_t : (dn.map Rec.t).Nodup
  blk : Blk wr c 58 #[I q, I n, .map (some mc)]
  held : Held (fun g => w.heap.size ≤ g) wr mc l' clk'
  abs : l'.map Rec.abs = dn.map Rec.abs
  below : Below w.heap.size w wr
  c_ge : w.heap.size ≤ c
section
variable {w wr wr' : World} {c mb mc clk clk' i : Nat} {q n : Int} {l dn l' : List Rec}
theorem Copied.step (h : Copied w c mb mc clk q n l dn l' clk' wr) (hb : Below wr.heap.size wr wr') : Copied w c mb mc clk q n l dn l' clk' wr' :=
  { h with blk := h.blk.below hb h.blk.lt, held := h.held.below hb, below := h.below.trans (hb.mono h.below.size) }
theorem Copied.iter (h : Copied w c mb mc clk q n l dn l' clk' wr) {done : List (Ent (List UInt8))} {b ck : Nat} (hI : IterAt wr i b ck done) (hi : w.heap.size ≤ i) (hg : wr.grownBy wr' (some i)) : Copied w c mb mc clk q n l dn l' clk' wr' :=
  { h with blk := h.blk.grown_iter hI hg, held := h.held.grown_iter hI hg, below := below_of_only h.below hg h.below.size hi }
end
theorem own_blk_mc {w : World} {mb g clk : Nat} {t : TypeId} {cs : Array Value} {le : List (Ent (List UInt8))} (hm : MapAt w mb encD IsD le clk) (h : Blk w g t cs) : g ≠ mb := by
  rintro rfl
  have := hm.heap
  rw [h] at this
  cases this
set_option maxRecDepth 100000 in
set_option maxHeartbeats 2000000 in
theorem clone_store (F : Nat → Prop) (s : Nat) (q n : Int) (m : M) (w : World) (hq : 0 ≤ q) (h : Store F w s q n m) (hc : ∀ x ∈ m, x.2.length ≤ 70368744177664) :
    Calls Tryd.prog 15 #[.pointer (some ⟨s, 0, none⟩)] w fun e w' => ∃ c m', e = .returned (.pointer (some ⟨c, 0, none⟩)) ∧ m'.Perm m ∧ Store (fun g => w.heap.size ≤ g) w' c q n m' ∧ Below w.heap.size w w' := by
  obtain ⟨mb, l, clock, hK, hs, hH, hm⟩ := h
  have Hm := Lib.hid hm
  have hcl : ∀ r ∈ l, r.c.length ≤ 70368744177664 := fun r hr => hc r.abs (by rw [← hm]; exact List.mem_map_of_mem hr)
  have Hcl := Lib.hid hcl
  clear hm hc hcl
  have c0 := hK.cell 0
  go_enter Tryd.func15, Tryd.ntmps15
  go_wp2_with fail
  refine (new_any (fun g => w.heap.size ≤ g) q w (fun i hi => hi)).mono ?_
  rintro e W ⟨c, rfl, hst, hB⟩
  have eq0 : max q 0 = q := by omega
  rw [eq0] at hst
  obtain ⟨mc, l0, clk0, hC, hcF, hHc, hl0⟩ := hst
  have hl00 : l0 = [] := List.map_eq_nil_iff.1 hl0
  subst hl00
  have c1 := (hK.below hB hK.lt).cell 1
  have c2 := (hK.below hB hK.lt).cell 2
  have d1 := hC.cell 1
  have f1 := hC.frozen 1
  have hmb := hH.map.lt
  have hsl := hK.lt
  have hB1 : Below w.heap.size w (W.setCell ⟨c, 1, none⟩ (I n)) := hB.setCell hcF _
  have hM1 := hH.map.keep (hB1.block mb hmb)
  have hC1 := hC.set_ 1 (I n)
  have hne : mc ≠ c := by
    rintro rfl
    have := hHc.map.heap
    rw [hC] at this
    cases this
  have hHc1 : Held (fun g => w.heap.size ≤ g) (W.setCell ⟨c, 1, none⟩ (I n)) mc [] clk0 := hHc.keep1 (Below.heap_setCell _ _ _ _ hne) (by simp)
  have hcp : Copied w c mb mc clock q n l [] [] clk0 (W.setCell ⟨c, 1, none⟩ (I n)) := ⟨by simp, by simp, hC1, hHc1, rfl, hB1, hcF⟩
  have hB0 := hB.size
  clear c0 hl0 eq0 hC1 hHc1 hHc hne hB1
  go_wp2_with (refine wpList_rng rfl (.tmp 23) rfl Tryd.underlying56 hM1 rfl (fun hI => ?_))
  clear c1 c2 d1 f1 hC hB
  replace hcp := hcp.step ((Below.refl _ _).alloc (Nat.le_refl _) (.mapIter (some mb) clock #[] clock))
  have hsz : w.heap.size ≤ (W.setCell ⟨c, 1, none⟩ (I n)).heap.size := by have := hcp.c_ge; have := hcp.below.size; rw [show (W.setCell ⟨c, 1, none⟩ (I n)).heap.size = W.heap.size from by simp [World.setCell]]; exact hB0
  generalize (W.setCell ⟨c, 1, none⟩ (I n)) = W1 at hI hcp hM1 hsz ⊢
  try simp only [Act.put, List.setIfInBounds_toArray, List.set_cons_zero, List.set_cons_succ]
  go_loopw [4] (fun _ wr => ∃ (dn l' : List Rec) (clk' : Nat), IterAt wr W1.heap.size mb clock (dn.map Rec.ent) ∧ Copied w c mb mc clock q n l dn l' clk' wr)
    (fun _ wr => l.length - match wr.heap[W1.heap.size]? with | some (.mapIter _ _ s _) => s.size | _ => 0)
  case atStart => exact ⟨[], [], clk0, hI, hcp⟩
  case round =>
    clear hI hcp
    obtain ⟨dn, l', clk', hI, hC⟩ := hrel
    have hM := hM1.keep (w' := wr) (hC.below.block mb hmb |>.trans (by exact (hH.map.heap.trans hM1.heap.symm)))
    have hmi : mb ≠ W1.heap.size := by omega
    by_cases hall : ∀ x ∈ l.map Rec.ent, x.2.2 ∈ (dn.map Rec.ent).map (·.2.2)
    · go_wp2_with (refine wpList_nxt rfl (.tmp 24) rfl hM hI rfl (fun _ => ?_) (fun x w' hx hn _ _ _ _ => absurd (hall x hx) hn) hmi)
      go_ret
      have ht : ∀ l : List Rec, (l.map Rec.ent).map (·.2.2) = l.map Rec.t := fun l => by rw [List.map_map]; rfl
      refine ⟨c, dn.map Rec.abs, rfl, ?_, ⟨mc, l', clk', hC.blk, hC.c_ge, hC.held, hC.abs⟩, hC.below⟩
      rw [← Hm.out]
      refine (all_perm dn l hC.dn_in hC.dn_t (by have := hH.map.borns; rwa [ht] at this) (fun r hr => ?_)).map _
      have := hall _ (List.mem_map_of_mem (f := Rec.ent) hr)
      rwa [ht] at this
    · have HI := Lib.hid hI
      have hwr := hC.below.size
      go_wp2_with (first
        | (refine wpList_nxt rfl (.tmp 24) rfl hM hI rfl (fun h => absurd h hall) (fun x W2 hx hnx hI2 hG2 hz2 hent => ?_) hmi
           obtain ⟨rx, hrx, rfl⟩ := List.mem_map.1 hx
           change (Instr.entry _).run _ W2 = .ok (.tuple #[encD rx.d, rx.v]) W2 at hent
           change wpList _ _ _ _ (Act.put _ _ (.tuple #[.bool true, encD rx.d, rx.v])) W2
           have hdl : IsD rx.d := hH.map.good _ hx
           obtain ⟨cs, ed, hcs, ocs⟩ := encD_cells rx.d hdl
           have Ed := Lib.hid ed
           rw [ed] at hent ⊢
           clear ed
           have hC2 := hC.iter hI hsz hG2
           have hW2 := hC2.below.size
           clear hC hG2 hz2 hI hx hM)
        | (refine wpList_store_row rfl 29 (.tmp 4) (.tmp 28) rfl W2.heap.size cs rfl rfl 29 _ (Blk.new W2 29 (Array.replicate 32 (B 0))) (by rw [hcs]; exact dig_info) (by rw [hcs]; rfl) ocs ?_
           change wpList _ _ _ _ _ ((W2.alloc (.cells (Array.replicate 32 (B 0)) 29)).setRow W2.heap.size cs)
           have hD3 := (box_facts W2 cs).1
           have hB3 := (box_facts W2 cs).2
           generalize (W2.alloc (.cells (Array.replicate 32 (B 0)) 29)).setRow W2.heap.size cs = W3 at hD3 hB3 ⊢))
      have hI3 : IterAt W3 W1.heap.size mb clock ((dn ++ [rx]).map Rec.ent) := by
        rw [List.map_append]
        exact (hB3.block _ (Array.getElem?_eq_some_iff.1 hI2).1).trans hI2
      have hC3 := hC2.step hB3
      have hW3 := hC3.below.size
      clear hC2 hI2 hent
      have c2 := hC3.blk.cell 2
      have hH3 := hH.below hC3.below
      obtain ⟨bA, bcap, hbv, hbc⟩ := own_form (hH3.own rx hrx)
      have hcl : ∀ W', Below W3.heap.size W3 W' → Calls Tryd.prog 28 #[.slice bA rx.c.length bcap] W' fun e w' => ∃ v', e = .returned v' ∧ w'.ownsRow W'.heap.size 5 1 v' rx.c.length (rx.c.map B) ∧ Below W'.heap.size W' w' := by
        intro W' hb
        rw [← hbv]
        exact clone_own rx.v rx.c W' (Hcl.out rx hrx) ((hH3.below hb).own rx hrx)
      have Hclo := Lib.hid hcl
      rw [hbv]
      clear hcl hbv hH3
      refine wp_region_held_drew (S := fun w' => Blk w' c 58 #[I q, I n, .map (some mc)] ∧ Blk w' W2.heap.size 29 cs) (by kernel_rfl) ⟨hC3.blk.drew, hD3.drew⟩ (fun hHeld => ?_)
      refine wpAnyH_take (i := 0) (oi := _) (v := .pointer (some ⟨c, 0, none⟩)) rfl (by kernel_rfl) (by kernel_rfl) (by kernel_rfl) (fun _ _ _ h => h) (Or.inl ⟨by rfl, fun w' hw' => by rfl⟩) hHeld ?_
      refine wpAnyH_take (i := 1) (oi := _) (v := .pointer (some ⟨c, 0, none⟩)) rfl (by kernel_rfl) (by kernel_rfl) (by kernel_rfl) (fun _ _ _ h => h) (Or.inl ⟨by rfl, fun w' hw' => by go_simp⟩) hHeld ?_
      refine wpAnyH_take (i := 2) (oi := _) (v := .pointer (some ⟨c, 2, none⟩)) rfl (by kernel_rfl) (by kernel_rfl) (by kernel_rfl) (fun _ _ _ h => h) (Or.inl ⟨by rfl, fun w' hw' => by go_simp⟩) hHeld ?_
      refine wpAnyH_take (i := 3) (oi := _) (v := .map (some mc)) rfl (by kernel_rfl) (by kernel_rfl) (by kernel_rfl) (fun _ _ _ h => h) (Or.inl ⟨by rfl, fun w' hw' => by have hw2 := hw'.1.cell 2; go_simp⟩) hHeld ?_
      refine wpAnyH_take (i := 4) (oi := _) (v := .agg cs) rfl (by kernel_rfl) (by kernel_rfl) (by kernel_rfl) (fun _ _ _ h => h) (Or.inl ⟨by rfl, fun w' hw' => exec_load_row 29 (.tmp 4) rfl W2.heap.size rfl hw'.2 Tryd.underlying29 rfl (by rw [hcs]; exact dig_info)⟩) hHeld ?_
      refine wpAnyH_take (i := 5) (oi := _) (v := .slice bA rx.c.length bcap) rfl (by kernel_rfl) (by kernel_rfl) (by kernel_rfl) (fun _ _ _ h => h) (Or.inl ⟨by rfl, fun w' hw' => by rfl⟩) hHeld ?_
      refine wpAnyH_ready (rs := [6]) (by kernel_rfl) (by simp) (AllReadyH.cons rfl (fun K hK => ?_) AllReadyH.nil)
      go_simp
      have hd3 : Below W3.heap.size W3 W3.drew := Below.drewN (Below.refl _ _) 1
      refine (Hclo.out _ hd3).mono ?_
      rintro e W4 ⟨v', rfl, hown, hB4⟩
      have hB34 : Below W3.heap.size W3 W4 := hd3.trans (hB4.mono hd3.size)
      refine hK.out _ _ ⟨hHeld.1.below hB4 hHeld.1.lt, hHeld.2.below hB4 hHeld.2.lt⟩ (fun hHeld2 => ?_)
      clear hK
      have hC4 := hC3.step hB34
      have hrt : rx.t ∉ dn.map Rec.t := by
        intro h; apply hnx
        rw [List.map_map]; exact h
      have hno : ∀ y ∈ l'.map Rec.abs, y.1 ≠ rx.d := by
        intro y hy e
        rw [hC4.abs] at hy
        obtain ⟨r2, h2, rfl⟩ := List.mem_map.1 hy
        have hkeys : (l.map (·.d)).Nodup := by
          have := hH.map.keys
          rwa [List.map_map] at this
        obtain ⟨a, b, e2⟩ := List.append_of_mem hrx
        have h3 := part_in e2 (hC4.dn_in r2 h2) (fun et => hrt (by rw [← et]; exact List.mem_map_of_mem h2))
        rw [e2, List.map_append, List.map_cons, List.nodup_append] at hkeys
        rcases List.mem_append.1 h3 with h3 | h3
        · exact hkeys.2.2 r2.d (List.mem_map_of_mem h3) rx.d (by simp) e
        · have := hkeys.2.1
          rw [List.nodup_cons] at this
          exact this.1 (by rw [← e]; exact List.mem_map_of_mem h3)
      have hsz3 : W3.drew.heap.size = W3.heap.size := rfl
      obtain ⟨W5, clk5, hrun, hH5, hG5, hz5⟩ := hC4.held.run_upd rx.d rx.c hdl v' (own_base hown (Nat.zero_le _)) (fun g hg => by
        have h2 := own_fresh hown hg
        omega) (fun r hr g hg1 hg2 => by
        have h1 := own_lt (hC3.held.own r hr) hg1
        have h2 := own_fresh hown hg2
        omega)
      have hup : updR l' rx.d rx.c v' clk' = l' ++ [⟨rx.d, rx.c, v', clk'⟩] := by
        unfold updR
        rw [look_some_get, (get_none _ _).2 hno]; rfl
      rw [hup] at hH5
      refine wpAnyH_ready (rs := [7]) (by kernel_rfl) (by simp) (AllReadyH.cons rfl (fun K hK => ?_) AllReadyH.nil)
      rw [if_pos (by rfl)]
      refine exec_upd (T := 56) (m := .tmp 33) (x := .tmp 34) (v := .tmp 36) rfl rfl rfl rfl (by rw [← Ed.out]; exact hrun) rfl ?_
      have hmcF : w.heap.size ≤ mc := hC4.held.here
      have hcm : c ≠ mc := by
        rintro rfl
        have := hC4.held.map.heap
        rw [hC4.blk] at this
        cases this
      have hC5 : Copied w c mb mc clock q n l (dn ++ [rx]) (l' ++ [⟨rx.d, rx.c, v', clk'⟩]) clk5 W5 :=
        ⟨fun r hr => by
          rcases List.mem_append.1 hr with hr | hr
          · exact hC4.dn_in r hr
          · rw [List.mem_singleton.1 hr]; exact hrx, by rw [List.map_append]; exact nodup_snoc hC4.dn_t hrt,
          hC4.blk.grown hG5 (by intro e; injection e with e; exact hcm e), hH5, by rw [List.map_append, List.map_append, hC4.abs]; rfl, below_of_only hC4.below hG5 hC4.below.size hmcF, hcF⟩
      have hI3' : W3.heap[W1.heap.size]? = _ := hI3
      have hI5 : IterAt W5 W1.heap.size mb clock ((dn ++ [rx]).map Rec.ent) := by
        have hi4 : W4.heap[W1.heap.size]? = W3.heap[W1.heap.size]? := hB34.block _ (Array.getElem?_eq_some_iff.1 hI3).1
        have hmi2 : W1.heap.size ≠ mc := by
          intro e
          have h1 := hC4.held.map.heap
          rw [← e, hi4, hI3'] at h1
          cases h1
        exact ((hG5.block _ (by have := (Array.getElem?_eq_some_iff.1 hI3).1; have := hB34.size; omega) (by intro e; injection e with e; exact hmi2 e)).trans hi4).trans hI3
      refine hK.out _ _ ⟨hC5.blk, hHeld2.2.grown hG5 (by intro e; injection e with e; exact own_blk_mc hC4.held.map hHeld2.2 e)⟩ (fun _ => ?_)
      refine wpAnyH_done (by kernel_rfl) ?_ _
      have hlt : dn.length < l.length := by
        have := some_len (dn ++ [rx]) l hC5.dn_in hC5.dn_t
        rw [List.length_append] at this
        simp only [List.length_cons, List.length_nil] at this
        omega
      clear hK hHeld hHeld2 hC4 hC3 hH5 hG5 hrun hown hB4 hB34 hB3 hD3 c2 Hclo
      go_wp2_with fail
      refine ⟨⟨_, _, _, hI5, hC5⟩, ?_⟩
      have hW := hI5
      have hI0 := HI.out
      unfold IterAt at hW hI0
      rw [hW, hI0]
      simp only [List.size_toArray, List.length_map, List.length_append, List.length_cons, List.length_nil]
      omega
end Go.Proofs.YtmjaclgbagogfaaDoor
