/- BlobRoom's walk. -/
import Derived.Test.YtmjaclgbagogfaaDoorAwake
namespace Go.Proofs.YtmjaclgbagogfaaDoor
open Go.RowKit Go.Maps Go.MapKept Go.Proofs.YtmjaclgbagogfaaDoor.Sha

theorem Ins.below {F : Nat → Prop} {w w' : World} {A : Option Addr} {vs : List (Value × List UInt8)} (h : Ins F w A vs) (hb : Below w.heap.size w w') : Ins F w' A vs := fun hne => by
  obtain ⟨b, o, h1, h2, h3, h4⟩ := h hne
  refine ⟨b, o, h1, Nat.lt_of_lt_of_le h2 hb.size, h3, fun j x hx => ?_⟩
  obtain ⟨h5, h6⟩ := h4 j x hx
  exact ⟨(hb.cell (p := ⟨b, o + j, none⟩) h2).trans h5, h6.off (Off.below (Off.refl (fun _ => False) w) hb (Nat.le_refl _)) (fun _ _ h => h.elim)⟩
/-- Each blob is of its digest. -/
def Good (m : M) : Prop := ∀ x ∈ m, digest x.2 = x.1
theorem Good.get {m : M} (h : Good m) {d c : List UInt8} (hg : Go.Proofs.YtmjaclgbagogfaaDoor.get m d = some c) : digest c = d := by
  unfold Go.Proofs.YtmjaclgbagogfaaDoor.get at hg
  obtain ⟨x, hx, rfl⟩ := Option.map_eq_some_iff.1 hg
  have h1 := List.mem_of_find?_eq_some hx
  have h2 := List.find?_some hx
  rw [h x h1]
  simpa using h2
theorem lens_take (l : List (List UInt8)) (k : Nat) (h : k < l.length) : lens (l.take (k + 1)) = lens (l.take k) + l[k].length := by
  unfold lens
  rw [List.take_succ_eq_append_getElem h, List.map_append, List.sum_append]
  simp
theorem lens_le (l : List (List UInt8)) (k : Nat) : lens (l.take k) ≤ lens l := by
  unfold lens
  conv => rhs; rw [← List.take_append_drop k l, List.map_append, List.sum_append]
  omega
theorem bytes_at {F : Nat → Prop} {s : Nat} {q n : Int} {m : M} {w : World} (h : Store F w s q n m) :
    Calls Tryd.prog 8 #[.pointer (some ⟨s, 0, none⟩)] w fun e w' => e = .returned (I n) ∧ w = w' := (bytes_any F s q n m w h).mono fun _ _ h => ⟨h.1, h.2.symm⟩
theorem count_at {F : Nat → Prop} {s : Nat} {q n : Int} {m : M} {w : World} (h : Store F w s q n m) :
    Calls Tryd.prog 20 #[.pointer (some ⟨s, 0, none⟩)] w fun e w' => e = .returned (I m.length) ∧ w = w' := (count_any F s q n m w h).mono fun _ _ h => ⟨h.1, h.2.symm⟩
theorem put_cases (m : M) (Q : Int) (x : List UInt8) (hG : Good m) :
    (4096 < x.length ∧ putCode m Q x = 2 ∧ putTo m Q x = m) ∨ (¬ 4096 < x.length ∧ (get m (digest x)).isSome = true ∧ (0 ≤ Q - tot m → putCode m Q x = 0 ∧ putTo m Q x = m)) ∨
    (¬ 4096 < x.length ∧ (get m (digest x)).isSome = false ∧ (x.length : Int) ≤ Q - tot m ∧ putCode m Q x = 0 ∧ putTo m Q x = m ++ [(digest x, x)]) ∨
    (¬ 4096 < x.length ∧ (get m (digest x)).isSome = false ∧ Q - tot m < (x.length : Int) ∧ putCode m Q x = 3 ∧ putTo m Q x = m) := by
  by_cases h1 : 4096 < x.length
  · have e : putCode m Q x = 2 := by unfold putCode; rw [if_pos h1]
    exact .inl ⟨h1, e, by unfold putTo; rw [e]; rfl⟩
  · rcases hg : get m (digest x) with _ | c
    · have e1 : mend m (digest x, x) = m ++ [(digest x, x)] := by simp [mend, put, hg]
      by_cases h2 : Q - tot m < (x.length : Int)
      · have e : putCode m Q x = 3 := by unfold putCode; rw [if_neg h1, hg]; exact if_pos h2
        exact .inr (.inr (.inr ⟨h1, rfl, h2, e, by unfold putTo; rw [e]; rfl⟩))
      · have e : putCode m Q x = 0 := by unfold putCode; rw [if_neg h1, hg]; exact if_neg h2
        exact .inr (.inr (.inl ⟨h1, rfl, by omega, e, by unfold putTo; rw [if_pos e, e1]⟩))
    · have e1 : mend m (digest x, x) = m := by simp [mend, hg, hG.get hg]
      refine .inr (.inl ⟨h1, rfl, fun h0 => ?_⟩)
      have e : putCode m Q x = 0 := by
        unfold putCode; rw [if_neg h1, hg]
        exact if_neg (by simp; omega)
      exact ⟨e, by unfold putTo; rw [if_pos e, e1]⟩
theorem zeros_ok : (Array.replicate 32 (B 0) : Array Value).all (·.oneCell') = true := by kernel_rfl
theorem put_digest (c : Int) (d : List UInt8) (hd : IsD d) : ∃ cs : Array Value, (if c = 0 then encD d else Value.agg (Array.replicate 32 (B 0))) = .agg cs ∧ cs.size = 32 ∧ cs.all (·.oneCell') = true ∧ (c = 0 → encD d = .agg cs) := by
  by_cases h : c = 0
  · obtain ⟨cs, e, h1, h2⟩ := encD_cells d hd
    exact ⟨cs, by rw [if_pos h, e], h1, h2, fun _ => e⟩
  · exact ⟨_, by rw [if_neg h], rfl, zeros_ok, fun e => absurd e h⟩
theorem Good.snoc {m : M} (h : Good m) (x : List UInt8) : Good (m ++ [(digest x, x)]) := by
  intro y hy
  rcases List.mem_append.1 hy with hy | hy
  · exact h y hy
  · rw [List.mem_singleton.1 hy]
set_option maxRecDepth 100000 in
set_option maxHeartbeats 4000000 in
theorem room_any (quota : Int) (A : Option Addr) (cap : Nat) (vs : List (Value × List UInt8)) (w : World) (hR : Rounds w) (hV : Ins (fun g => w.heap.size ≤ g) w A vs) (hvl : vs.length ≤ cap) (hvb : vs.length ≤ 70368744177664)
    (hbig : lens (vs.map (·.2)) ≤ 70368744177664) (hq1 : -9223372036854775808 ≤ quota) (hq2 : quota ≤ 9223372036854775807) :
    Calls Tryd.prog 3 #[I quota, .slice A vs.length cap] w fun e w' => e = .returned (.bool true) ∧ Below w.heap.size w w' := by
  obtain ⟨Q, hQ⟩ : ∃ Q : Int, Q = max quota 0 := ⟨_, rfl⟩
  have hQ0 : 0 ≤ Q := by omega
  have hQ2 : Q ≤ 9223372036854775807 := by omega
  have hmx : max quota 0 = Q := hQ.symm
  have HQ := Lib.hid hQ
  clear hQ
  go_enter Tryd.func3, Tryd.ntmps3
  go_wp2_with fail
  refine (awake_any w hR).mono ?_
  rintro e W ⟨rfl, hB⟩
  go_wp2_with fail
  refine (new_any (fun g => w.heap.size ≤ g) quota W (fun i hi => by have := hB.size; omega)).mono ?_
  rintro e W1 ⟨s, rfl, hst, hB1⟩
  rw [← HQ.out] at hst
  replace hB := hB.trans (hB1.mono hB.size)
  clear hB1
  go_wp2_with fail
  go_loopw [6] (fun v6 wr => ∃ (k : Nat) (m : M), v6 = I k ∧ k ≤ vs.length ∧ Good m ∧ Store (fun g => w.heap.size ≤ g) wr s Q (tot m) m ∧ (tot m : Int) ≤ Q ∧ tot m ≤ lens ((vs.map (·.2)).take k) ∧ Below w.heap.size w wr)
    (fun v6 _ => vs.length - match v6 with | .int _ k => k.toNat | _ => 0)
  case atStart => exact ⟨0, [], rfl, by omega, (fun _ h => by cases h), hst, by simpa [tot] using hQ0, by simp [tot], hB⟩
  case round =>
    clear hst hB
    obtain ⟨k, m, rfl, hk, hG, hst, htQ, htl, hB⟩ := hrel
    by_cases hkl : k < vs.length
    · by_cases h60 : k < 60
      · have hvs : vs ≠ [] := by rintro rfl; simp at hkl
        obtain ⟨ab, ao, rfl, hab, haF, hcell⟩ := hV hvs
        obtain ⟨hv0, hbs⟩ := hcell k vs[k] (List.getElem?_eq_getElem hkl)
        obtain ⟨x, hx⟩ : ∃ x, x = vs[k].2 := ⟨_, rfl⟩
        rw [← hx] at hbs
        have hlk := lens_take (vs.map (·.2)) k (by simpa using hkl)
        rw [List.getElem_map, ← hx] at hlk
        have hlall := lens_le (vs.map (·.2)) (k + 1)
        obtain ⟨vA, vcap, hve, hvc, hvN, hvI⟩ := hbs.in_
        have hv1 : w.cell? ⟨ab, ao + k, none⟩ = some (.slice vA x.length vcap) := by rw [hv0, hve]
        rw [hve] at hbs
        have hxl : x.length ≤ 70368744177664 := by omega
        have htx : tot m + x.length ≤ 1125899906842624 := by omega
        have Hlk := Lib.hid hlk
        have HvN := Lib.hid hvN
        have Hbs := Lib.hid hbs
        clear hlk hx hcell hv0 hve hbs hvN hvs
        have hcW : ∀ W, Below w.heap.size w W → W.cell? ⟨ab, ao + k, none⟩ = some (.slice vA x.length vcap) := fun W hb => (hb.cell (p := ⟨ab, ao + k, none⟩) hab).trans hv1
        have HcW := Lib.hid hcW
        clear hcW hv1
        have c0 := HcW.out _ hB
        have hk1 : IntKind.i64.wrap ((k : Int) + 1) = (k : Int) + 1 := IntWalk.i64_in _ (by omega)
        go_wp2_with (go_at_call 8; refine (bytes_at hst).mono ?_; rintro e w' ⟨rfl, rfl⟩)
        refine (rsum_any vA vcap x wr (by omega) (hvI.below hB)).mono ?_
        rintro e W2 ⟨rfl, hB2⟩
        replace hst := hst.below hB2
        replace hB2 := hB.trans (hB2.mono hB.size)
        clear c0 hB
        have hd : IsD (digest x) := digest_length x
        go_wp2_with fail
        refine (has_any _ s Q _ m (digest x) hd W2 hst).mono ?_
        rintro e W3 ⟨rfl, hB3⟩
        replace hst := hst.below hB3
        replace hB3 := hB2.trans (hB3.mono hB2.size)
        clear hB2
        have c0 := HcW.out _ hB3
        have hRW := hR.below hB3
        go_wp2_with fail
        refine (put_any _ s Q m _ x W3 (fun i hi => Nat.le_trans hB3.size hi) hRW (by have := hR.1; omega) (Hbs.out.off (Off.below (Off.refl (fun _ => False) w) hB3 (Nat.le_refl _)) (fun _ _ h => h.elim)) hst hQ0 hQ2 htx).mono ?_
        rintro e W4 ⟨hO4, rfl, hst4⟩
        obtain ⟨cs, ecs, hcs, ocs, Ecs⟩ := put_digest (putCode m Q x) (digest x) hd
        rw [ecs]
        have Hcs := Lib.hid Ecs
        clear ecs Ecs hst hRW c0
        have hB4 : Below w.heap.size w W4 := ⟨hO4.os.trans hB3.os, hO4.tape.trans hB3.tape, hO4.output.trans hB3.output, Nat.le_trans hB3.size hO4.size, fun i hi => (hO4.block i (Nat.lt_of_lt_of_le hi hB3.size) (by omega)).trans (hB3.block i hi)⟩
        clear hO4 hB3
        rcases put_cases m Q x hG with ⟨hlong, hc, ht⟩ | ⟨hlong, hg, hct⟩ | ⟨hlong, hg, hfit, hc, ht⟩ | ⟨hlong, hg, hfit, hc, ht⟩
        · skip
          rw [hc]
          rw [ht] at hst4
          clear hc ht Hcs
          go_wp2_with (first
            | ((refine wpList_store_row rfl 29 (.tmp 9) (.tmp 44) rfl W4.heap.size cs rfl rfl 29 _ (Blk.new W4 29 (Array.replicate 32 (B 0))) (by rw [hcs]; exact dig_info) (by rw [hcs]; rfl) ocs ?_
                change wpList _ _ _ _ _ ((W4.alloc (.cells (Array.replicate 32 (B 0)) 29)).setRow W4.heap.size cs)
                have hD5 := (box_facts W4 cs).1
                have hB5 := (box_facts W4 cs).2
                generalize (W4.alloc (.cells (Array.replicate 32 (B 0)) 29)).setRow W4.heap.size cs = W5 at hD5 hB5 ⊢); have c5 := HcW.out _ (hB4.trans (hB5.mono hB4.size)))
            | (go_at_call 8; refine (bytes_at (hst4.below hB5)).mono ?_; rintro e w' ⟨rfl, rfl⟩))
          refine ⟨⟨k + 1, m, by simp, by omega, hG, hst4.below hB5, htQ, by have := Hlk.out; omega, hB4.trans (hB5.mono hB4.size)⟩, by simp; omega⟩
        · skip
          obtain ⟨hc, ht⟩ := hct (by omega)
          rw [hc]
          rw [ht] at hst4
          clear hc ht hct Hcs
          go_wp2_with (first
            | ((refine wpList_store_row rfl 29 (.tmp 9) (.tmp 44) rfl W4.heap.size cs rfl rfl 29 _ (Blk.new W4 29 (Array.replicate 32 (B 0))) (by rw [hcs]; exact dig_info) (by rw [hcs]; rfl) ocs ?_
                change wpList _ _ _ _ _ ((W4.alloc (.cells (Array.replicate 32 (B 0)) 29)).setRow W4.heap.size cs)
                have hD5 := (box_facts W4 cs).1
                have hB5 := (box_facts W4 cs).2
                generalize (W4.alloc (.cells (Array.replicate 32 (B 0)) 29)).setRow W4.heap.size cs = W5 at hD5 hB5 ⊢); have c5 := HcW.out _ (hB4.trans (hB5.mono hB4.size)))
            | (go_at_call 8; refine (bytes_at (hst4.below hB5)).mono ?_; rintro e w' ⟨rfl, rfl⟩))
          refine ⟨⟨k + 1, m, by simp, by omega, hG, hst4.below hB5, htQ, by have := Hlk.out; omega, hB4.trans (hB5.mono hB4.size)⟩, by simp; omega⟩
        · rw [hc]
          rw [ht] at hst4
          have htm : tot (m ++ [(digest x, x)]) = tot m + x.length := by simp [tot]
          rw [htm] at hst4
          have Hht := Lib.hid ht
          have Hhc := Lib.hid hc
          have Htm := Lib.hid htm
          clear hc ht htm
          have hsub : IntKind.i64.wrap (Q - (tot m : Int)) = Q - tot m := IntWalk.i64_in _ (by omega)
          go_wp2_with (first
            | ((refine wpList_store_row rfl 29 (.tmp 9) (.tmp 44) rfl W4.heap.size cs rfl rfl 29 _ (Blk.new W4 29 (Array.replicate 32 (B 0))) (by rw [hcs]; exact dig_info) (by rw [hcs]; rfl) ocs ?_
                change wpList _ _ _ _ _ ((W4.alloc (.cells (Array.replicate 32 (B 0)) 29)).setRow W4.heap.size cs)
                have hD5 := (box_facts W4 cs).1
                have hB5 := (box_facts W4 cs).2
                generalize (W4.alloc (.cells (Array.replicate 32 (B 0)) 29)).setRow W4.heap.size cs = W5 at hD5 hB5 ⊢); have c5 := HcW.out _ (hB4.trans (hB5.mono hB4.size)))
            | (go_at_call 8; refine (bytes_at (hst4.below hB5)).mono ?_; rintro e w' ⟨rfl, rfl⟩))
          have hst5 := (hst4.weak (G := fun g => w.heap.size ≤ g ∧ g ≠ W4.heap.size) (fun i hi hf => ⟨hf, by omega⟩)).below hB5
          have hB5w := hB4.trans (hB5.mono hB4.size)
          have Ecs := Lib.hid (Hcs.out Hhc.out)
          have h4 := hB4.size
          clear hst4 hB5 hB4
          have hgd : get (m ++ [(digest x, x)]) (digest x) = some x := by
            have h0 : ∀ y ∈ m, y.1 ≠ digest x := (get_none m (digest x)).1 (by simpa using hg)
            unfold get
            rw [List.find?_append, List.find?_eq_none.2 (fun y hy => by simpa using h0 y hy)]
            simp
          have hdr : drop (m ++ [(digest x, x)]) (digest x) = m := by
            have h0 : get m (digest x) = none := by simpa using hg
            have := drop_none h0
            unfold drop at this ⊢
            rw [List.filter_append, this]
            simp
          have hsum : IntKind.i64.wrap ((tot m : Int) + (x.length : Int)) = (tot m : Int) + x.length := IntWalk.i64_in _ (by omega)
          have htn : ((tot m + x.length : Nat) : Int) - (x.length : Int) = tot m := by omega
          have Hgd := Lib.hid hgd
          have Hdr := Lib.hid hdr
          have Htn := Lib.hid htn
          clear hgd hdr htn
          refine wp_region_held_drew (S := fun w' => Blk w' W4.heap.size 29 cs ∧ w'.cell? ⟨ab, ao + k, none⟩ = some (.slice vA x.length vcap)) (by kernel_rfl) ⟨hD5.drew, c5⟩ (fun hHeld => ?_)
          replace hst5 := hst5.below (Below.drewN (Below.refl W5.heap.size W5) 1)
          replace hB5w := Below.drewN hB5w 1
          change Store _ W5.drew _ _ _ _ at hst5
          change Below _ _ W5.drew at hB5w
          clear hD5 c5
          generalize W5.drew = W6 at hst5 hB5w hHeld ⊢
          refine wpAnyH_take (i := 0) (oi := _) (v := .pointer (some ⟨s, 0, none⟩)) rfl (by kernel_rfl) (by kernel_rfl) (by kernel_rfl) (fun _ _ _ h => h) (Or.inl ⟨by rfl, fun w' hw' => by rfl⟩) hHeld ?_
          refine wpAnyH_take (i := 2) (oi := _) (v := I (tot m)) rfl (by kernel_rfl) (by kernel_rfl) (by kernel_rfl) (fun _ _ _ h => h) (Or.inl ⟨by rfl, fun w' hw' => by rfl⟩) hHeld ?_
          refine wpAnyH_take (i := 3) (oi := _) (v := .slice (some ⟨ab, ao, none⟩) vs.length cap) rfl (by kernel_rfl) (by kernel_rfl) (by kernel_rfl) (fun _ _ _ h => h) (Or.inl ⟨by rfl, fun w' hw' => by rfl⟩) hHeld ?_
          refine wpAnyH_take (i := 4) (oi := _) (v := I k) rfl (by kernel_rfl) (by kernel_rfl) (by kernel_rfl) (fun _ _ _ h => h) (Or.inl ⟨by rfl, fun w' hw' => by rfl⟩) hHeld ?_
          refine wpAnyH_take (i := 5) (oi := _) (v := .pointer (some ⟨ab, ao + k, none⟩)) rfl (by kernel_rfl) (by kernel_rfl) (by kernel_rfl) (fun _ _ _ h => h) (Or.inl ⟨by rfl, fun w' hw' => by go_simp⟩) hHeld ?_
          refine wpAnyH_take (i := 6) (oi := _) (v := .slice vA x.length vcap) rfl (by kernel_rfl) (by kernel_rfl) (by kernel_rfl) (fun _ _ _ h => h) (Or.inl ⟨by rfl, fun w' hw' => by have hw2 := hw'.2; go_simp⟩) hHeld ?_
          refine wpAnyH_take (i := 7) (oi := _) (v := I x.length) rfl (by kernel_rfl) (by kernel_rfl) (by kernel_rfl) (fun _ _ _ h => h) (Or.inl ⟨by rfl, fun w' hw' => by go_simp⟩) hHeld ?_
          refine wpAnyH_take (i := 8) (oi := _) (v := I ((tot m : Int) + x.length)) rfl (by kernel_rfl) (by kernel_rfl) (by kernel_rfl) (fun _ _ _ h => h) (Or.inl ⟨by rfl, fun w' hw' => by go_simp⟩) hHeld ?_
          refine wpAnyH_ready (rs := [1]) (by kernel_rfl) (by simp) (AllReadyH.cons rfl (fun K hK => ?_) AllReadyH.nil)
          go_simp
          refine (bytes_at hst5).mono ?_
          rintro e w' ⟨rfl, rfl⟩
          refine hK.out _ _ hHeld (fun _ => ?_)
          clear hK
          refine wpAnyH_take (i := 9) (oi := _) (v := .bool false) rfl (by kernel_rfl) (by kernel_rfl) (by kernel_rfl) (fun _ _ _ h => h) (Or.inl ⟨by rfl, fun w' hw' => by go_simp⟩) hHeld ?_
          refine wpAnyH_take (i := 10) (oi := _) (v := .bool false) rfl (by kernel_rfl) (by kernel_rfl) (by kernel_rfl) (fun _ _ _ h => h) (Or.inl ⟨by rfl, fun w' hw' => by rfl⟩) hHeld ?_
          refine wpAnyH_take (i := 11) (oi := _) (v := .pointer (some ⟨s, 0, none⟩)) rfl (by kernel_rfl) (by kernel_rfl) (by kernel_rfl) (fun _ _ _ h => h) (Or.inl ⟨by rfl, fun w' hw' => by rfl⟩) hHeld ?_
          refine wpAnyH_take (i := 12) (oi := _) (v := .agg cs) rfl (by kernel_rfl) (by kernel_rfl) (by kernel_rfl) (fun _ _ _ h => h) (Or.inl ⟨by rfl, fun w' hw' => exec_load_row 29 (.tmp 9) rfl W4.heap.size rfl hw'.1 Tryd.underlying29 rfl (by rw [hcs]; exact dig_info)⟩) hHeld ?_
          refine wpAnyH_ready (rs := [13]) (by kernel_rfl) (by simp) (AllReadyH.cons rfl (fun K hK => ?_) AllReadyH.nil)
          go_simp
          rw [← Ecs.out]
          refine (drop_any _ s Q _ _ (digest x) hd W6 hst5 (by omega) (by omega) (fun c hc => ?_)).mono ?_
          · rw [Hgd.out] at hc
            injection hc with hc
            rw [← hc]; omega
          rw [Hgd.out, Hdr.out]
          simp only [Option.isSome_some, if_true, Option.getD_some]
          rw [Htn.out]
          rintro e W7 ⟨rfl, hst7, hO7⟩
          rw [Ecs.out]
          have hB7w : Below w.heap.size w W7 := ⟨hO7.os.trans hB5w.os, hO7.tape.trans hB5w.tape, hO7.output.trans hB5w.output, Nat.le_trans hB5w.size hO7.size, fun i hi => (hO7.block i (Nat.lt_of_lt_of_le hi hB5w.size) (by omega)).trans (hB5w.block i hi)⟩
          refine hK.out _ _ ⟨hHeld.1.off hO7 (by omega), HcW.out _ hB7w⟩ (fun hHeld2 => ?_)
          clear hK hHeld hst5 hO7 hB5w
          have hHeld := hHeld2
          clear hHeld2
          refine wpAnyH_take (i := 14) (oi := _) (v := .bool false) rfl (by kernel_rfl) (by kernel_rfl) (by kernel_rfl) (fun _ _ _ h => h) (Or.inl ⟨by rfl, fun w' hw' => by go_simp⟩) hHeld ?_
          refine wpAnyH_take (i := 15) (oi := _) (v := .bool false) rfl (by kernel_rfl) (by kernel_rfl) (by kernel_rfl) (fun _ _ _ h => h) (Or.inl ⟨by rfl, fun w' hw' => by go_simp⟩) hHeld ?_
          refine wpAnyH_take (i := 16) (oi := _) (v := .bool false) rfl (by kernel_rfl) (by kernel_rfl) (by kernel_rfl) (fun _ _ _ h => h) (Or.inl ⟨by rfl, fun w' hw' => by rfl⟩) hHeld ?_
          refine wpAnyH_take (i := 17) (oi := _) (v := .pointer (some ⟨s, 0, none⟩)) rfl (by kernel_rfl) (by kernel_rfl) (by kernel_rfl) (fun _ _ _ h => h) (Or.inl ⟨by rfl, fun w' hw' => by rfl⟩) hHeld ?_
          refine wpAnyH_take (i := 19) (oi := _) (v := I (tot m)) rfl (by kernel_rfl) (by kernel_rfl) (by kernel_rfl) (fun _ _ _ h => h) (Or.inl ⟨by rfl, fun w' hw' => by rfl⟩) hHeld ?_
          refine wpAnyH_ready (rs := [18]) (by kernel_rfl) (by simp) (AllReadyH.cons rfl (fun K hK => ?_) AllReadyH.nil)
          go_simp
          refine (bytes_at hst7).mono ?_
          rintro e w' ⟨rfl, rfl⟩
          refine hK.out _ _ hHeld (fun _ => ?_)
          clear hK
          refine wpAnyH_take (i := 20) (oi := _) (v := .bool false) rfl (by kernel_rfl) (by kernel_rfl) (by kernel_rfl) (fun _ _ _ h => h) (Or.inl ⟨by rfl, fun w' hw' => by go_simp⟩) hHeld ?_
          refine wpAnyH_take (i := 21) (oi := _) (v := .bool false) rfl (by kernel_rfl) (by kernel_rfl) (by kernel_rfl) (fun _ _ _ h => h) (Or.inl ⟨by rfl, fun w' hw' => by go_simp⟩) hHeld ?_
          refine wpAnyH_take (i := 22) (oi := _) (v := .bool false) rfl (by kernel_rfl) (by kernel_rfl) (by kernel_rfl) (fun _ _ _ h => h) (Or.inl ⟨by rfl, fun w' hw' => by rfl⟩) hHeld ?_
          refine wpAnyH_take (i := 23) (oi := _) (v := .pointer (some ⟨s, 0, none⟩)) rfl (by kernel_rfl) (by kernel_rfl) (by kernel_rfl) (fun _ _ _ h => h) (Or.inl ⟨by rfl, fun w' hw' => by rfl⟩) hHeld ?_
          refine wpAnyH_take (i := 24) (oi := _) (v := .agg cs) rfl (by kernel_rfl) (by kernel_rfl) (by kernel_rfl) (fun _ _ _ h => h) (Or.inl ⟨by rfl, fun w' hw' => exec_load_row 29 (.tmp 9) rfl W4.heap.size rfl hw'.1 Tryd.underlying29 rfl (by rw [hcs]; exact dig_info)⟩) hHeld ?_
          refine wpAnyH_ready (rs := [25]) (by kernel_rfl) (by simp) (AllReadyH.cons rfl (fun K hK => ?_) AllReadyH.nil)
          go_simp
          rw [← Ecs.out]
          refine (has_any _ s Q _ m (digest x) hd W7 hst7).mono ?_
          rw [hg]
          rintro e W8 ⟨rfl, hB8⟩
          rw [Ecs.out]
          have hst8 := hst7.below hB8
          have hB8w := hB7w.trans (hB8.mono hB7w.size)
          have c8 := HcW.out _ hB8w
          have h8 := hHeld.1.lt
          have h8' := hB8.size
          have hOld := hHeld
          refine hK.out _ _ ⟨hHeld.1.below hB8 hHeld.1.lt, c8⟩ (fun hHeld => ?_)
          refine wpAnyH_take (i := 26) (oi := _) (v := .bool false) rfl (by kernel_rfl) (by kernel_rfl) (by kernel_rfl) (fun _ _ _ h => h) (Or.inl ⟨by rfl, fun w' hw' => by go_simp⟩) hHeld ?_
          refine wpAnyH_done (by kernel_rfl) ?_ _
          clear hOld hK hHeld hst7 hB8 hB7w
          go_wp2_with fail
          have hR8 := hR.below hB8w
          refine (put_any _ s Q m _ x W8 (fun i hi => ⟨Nat.le_trans hB8w.size hi, by omega⟩) hR8 (by have := hR.1; omega) ((Hbs.out.off (Off.below (Off.refl (fun _ => False) w) hB8w (Nat.le_refl _)) (fun _ _ h => h.elim)).weak (fun _ _ h => h.1)) hst8 hQ0 hQ2 htx).mono ?_
          rw [Hhc.out, Hht.out, Htm.out]
          rintro e W9 ⟨hO9, rfl, hst9⟩
          have hB9w : Below w.heap.size w W9 := ⟨hO9.os.trans hB8w.os, hO9.tape.trans hB8w.tape, hO9.output.trans hB8w.output, Nat.le_trans hB8w.size hO9.size, fun i hi => (hO9.block i (Nat.lt_of_lt_of_le hi hB8w.size) (by omega)).trans (hB8w.block i hi)⟩
          replace hst9 := hst9.weak (G := fun g => w.heap.size ≤ g) (fun i hi hf => hf.1)
          clear hst8 hB8w hO9 hR8 c8
          go_wp2_with fail
          refine ⟨⟨k + 1, _, by simp, by omega, hG.snoc x, by rw [Htm.out]; exact hst9, by rw [Htm.out]; omega, by rw [Htm.out]; have := Hlk.out; omega, hB9w⟩, by simp; omega⟩
        · skip
          rw [hc]
          rw [ht] at hst4
          clear hc ht Hcs
          have hsub : IntKind.i64.wrap (Q - (tot m : Int)) = Q - tot m := IntWalk.i64_in _ (by omega)
          go_wp2_with (first
            | ((refine wpList_store_row rfl 29 (.tmp 9) (.tmp 44) rfl W4.heap.size cs rfl rfl 29 _ (Blk.new W4 29 (Array.replicate 32 (B 0))) (by rw [hcs]; exact dig_info) (by rw [hcs]; rfl) ocs ?_
                change wpList _ _ _ _ _ ((W4.alloc (.cells (Array.replicate 32 (B 0)) 29)).setRow W4.heap.size cs)
                have hD5 := (box_facts W4 cs).1
                have hB5 := (box_facts W4 cs).2
                generalize (W4.alloc (.cells (Array.replicate 32 (B 0)) 29)).setRow W4.heap.size cs = W5 at hD5 hB5 ⊢); have c5 := HcW.out _ (hB4.trans (hB5.mono hB4.size)))
            | (go_at_call 8; refine (bytes_at (hst4.below hB5)).mono ?_; rintro e w' ⟨rfl, rfl⟩))
          refine ⟨⟨k + 1, m, by simp, by omega, hG, hst4.below hB5, htQ, by have := Hlk.out; omega, hB4.trans (hB5.mono hB4.size)⟩, by simp; omega⟩
      · go_wp2_with fail
        go_ret
        exact ⟨rfl, hB⟩
    · go_wp2_with fail
      go_ret
      exact ⟨rfl, hB⟩
end Go.Proofs.YtmjaclgbagogfaaDoor
