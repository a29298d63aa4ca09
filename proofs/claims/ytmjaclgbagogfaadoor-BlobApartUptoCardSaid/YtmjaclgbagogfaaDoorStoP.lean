/- (*blob.Store).PutAll. -/
import Derived.Test.YtmjaclgbagogfaaDoorStoL
import Derived.Deep.RegionHeld
import Derived.Lib.QuietBelow
namespace Go.Proofs.YtmjaclgbagogfaaDoor
open Go.RowKit Go.Maps Go.MapKept Go.Proofs.YtmjaclgbagogfaaDoor.Sha

/-- A list of byte slices that came in. -/
def Ins (F : Nat → Prop) (w : World) (A : Option Addr) (vs : List (Value × List UInt8)) : Prop :=
  vs ≠ [] → ∃ b o, A = some ⟨b, o, none⟩ ∧ b < w.heap.size ∧ ¬ F b ∧ ∀ j x, vs[j]? = some x → w.cell? ⟨b, o + j, none⟩ = some x.1 ∧ Bs F w x.1 x.2

theorem Bs.in_ {F : Nat → Prop} {w : World} {v : Value} {l : List UInt8} (h : Bs F w v l) : ∃ A cap, v = .slice A l.length cap ∧ l.length ≤ cap ∧ (A = none → cap = 0) ∧ In w A l := by
  obtain ⟨A, cap, e, hc, hN, h⟩ := h
  refine ⟨A, cap, e, hc, hN, fun hne => ?_⟩
  obtain ⟨b, o, h1, h2, _, h4⟩ := h hne
  exact ⟨b, o, h1, h2, h4⟩
set_option maxRecDepth 100000 in
set_option maxHeartbeats 4000000 in
theorem putall_any (F : Nat → Prop) (s : Nat) (q : Int) (m : M) (A : Option Addr) (cap : Nat) (vs : List (Value × List UInt8)) (w : World)
    (hF : ∀ i, w.heap.size ≤ i → F i) (hR : Rounds w) (hRF : ¬ F 0) (hV : Ins F w A vs) (hvl : vs.length ≤ cap) (hvb : vs.length ≤ 70368744177664)
    (h : Store F w s q (tot m) m) (hq : 0 ≤ q) (hq2 : q ≤ 9223372036854775807) (hbig : tot m + lens (vs.map (·.2)) ≤ 1125899906842624) :
    Calls Tryd.prog 26 #[.pointer (some ⟨s, 0, none⟩), .slice A vs.length cap] w fun e w' => Off F w w' ∧
      (match plan m (vs.map (·.2)) [] 0 with
      | none => e = .returned (I 2) ∧ Store F w' s q (tot m) m
      | some (fm, need) => if q - tot m < need then e = .returned (I 3) ∧ Store F w' s q (tot m) m else e = .returned (I 0) ∧ ∃ fm' : M, fm'.Perm fm ∧ Store F w' s q (tot (fm'.foldl mend m)) (fm'.foldl mend m)) := by
  obtain ⟨Post, hPost⟩ : ∃ Post : Ending → World → Prop, Post = fun e w' => Off F w w' ∧
      (match plan m (vs.map (·.2)) [] 0 with
      | none => e = .returned (I 2) ∧ Store F w' s q (tot m) m
      | some (fm, need) => if q - tot m < need then e = .returned (I 3) ∧ Store F w' s q (tot m) m else e = .returned (I 0) ∧ ∃ fm' : M, fm'.Perm fm ∧ Store F w' s q (tot (fm'.foldl mend m)) (fm'.foldl mend m)) := ⟨_, rfl⟩
  rw [← hPost]
  have HP := Lib.hid hPost
  clear hPost
  have hmm := @run_makeMap Tryd.prog
  go_enter Tryd.func26, Tryd.ntmps26
  go_wp2_with fail
  have hM0 : Held (fun g => w.heap.size ≤ g) (w.alloc (.map #[] 0)) w.heap.size [] 0 := ⟨MapAt.made w _ _, Nat.le_refl _, by simp, by simp, List.Pairwise.nil⟩
  have hB0 : Below w.heap.size w (w.alloc (.map #[] 0)) := (Below.refl _ w).alloc (Nat.le_refl _) _
  go_loopw [6, 23] (fun v6 v23 wr => ∃ (k need : Nat) (lf : List Rec) (clk : Nat), v6 = I need ∧ v23 = I k ∧ k ≤ vs.length ∧
    Held (fun g => w.heap.size ≤ g) wr w.heap.size lf clk ∧ Below w.heap.size w wr ∧ need ≤ lens ((vs.map (·.2)).take k) ∧
    plan m (vs.map (·.2)) [] 0 = plan m ((vs.map (·.2)).drop k) (lf.map Rec.abs) need ∧ tot (lf.map Rec.abs) ≤ lens ((vs.map (·.2)).take k)) (fun _ v23 _ => vs.length - match v23 with | .int _ k => k.toNat | _ => 0)
  case atStart => exact ⟨0, 0, [], 0, rfl, rfl, by omega, hM0, hB0, by omega, rfl, by simp [tot]⟩
  case round =>
    clear hM0 hB0 hmm
    obtain ⟨k, need, lf, clk, rfl, rfl, hk, hM, hB, hneed, hplan, htot⟩ := hrel
    have Hplan := Lib.hid hplan
    have Hh := Lib.hid h
    clear hplan h
    by_cases hkl : k < vs.length
    · skip
      have hvs : vs ≠ [] := by rintro rfl; simp at hkl
      obtain ⟨ab, ao, rfl, hab, haF, hcell⟩ := hV hvs
      have hcx := hcell k vs[k] (List.getElem?_eq_getElem hkl)
      have hv0 := hcx.1
      obtain ⟨vA, vcap, hve, hvc, hvN, hvI⟩ := hcx.2.in_
      have hvk : wr.cell? ⟨ab, ao + k, none⟩ = some (.slice vA vs[k].2.length vcap) := by
        rw [← hve, ← hv0]
        exact hB.cell (p := ⟨ab, _, none⟩) hab
      have Hcell := Lib.hid hcell
      have HvN := Lib.hid hvN
      clear hcell hcx hv0 hvN
      have Hvs := Lib.hid hvs
      clear hvs
      obtain ⟨x, hx⟩ : ∃ x, x = vs[k].2 := ⟨_, rfl⟩
      rw [← hx] at hve hvc hvI hvk
      have hdrop : (vs.map (·.2)).drop k = x :: (vs.map (·.2)).drop (k + 1) := by
        rw [List.drop_eq_getElem_cons (by simpa using hkl), List.getElem_map, hx]
      have hlk : lens ((vs.map (·.2)).take (k + 1)) = lens ((vs.map (·.2)).take k) + x.length := by
        unfold lens
        rw [List.take_succ_eq_append_getElem (by simpa using hkl), List.map_append, List.sum_append, List.getElem_map, hx]; simp
      have hlall : lens ((vs.map (·.2)).take (k + 1)) ≤ lens (vs.map (·.2)) := by
        unfold lens
        conv => rhs; rw [← List.take_append_drop (k + 1) (vs.map (·.2)), List.map_append, List.sum_append]
        omega
      have Hlk := Lib.hid hlk
      have Hlall := Lib.hid hlall
      have Hdrop := Lib.hid hdrop
      have Hx := Lib.hid hx
      have Hve := Lib.hid hve
      clear hlk hlall hdrop hx hve
      by_cases hlong : 4096 < x.length
      · have hlong' : ((4096 : Int) < (x.length : Int)) := by omega
        go_wp2_with fail
        rw [HP.out]
        refine ⟨(Off.refl F w).below hB (Nat.le_refl _), ?_⟩
        have e : plan m (vs.map (·.2)) [] 0 = none := by
          rw [Hplan.out, Hdrop.out]
          unfold plan
          rw [if_pos hlong]
        rw [e]
        exact ⟨rfl, Hh.out.below hB⟩
      · have hlong' : ¬ ((4096 : Int) < (x.length : Int)) := by omega
        go_wp2_with fail
        refine (sum_any vA vcap x wr (by omega) hvc (hR.below hB).1 (hR.below hB).2 (hvI.below hB)).mono ?_
        rintro e W ⟨rfl, hB1⟩
        replace hM := hM.below hB1
        replace hB := hB.trans (hB1.mono hB.size)
        replace hB1 : wr.heap.size ≤ W.heap.size := hB1.size
        clear hvk
        have hdl : IsD (digest x) := digest_length x
        obtain ⟨cs, ed, hcs, h1⟩ := encD_cells (digest x) hdl
        have Ed := Lib.hid ed
        rw [ed]
        clear ed
        have hD0 := Blk.new W 29 (Array.replicate 32 (B 0))
        have hk1 : IntKind.i64.wrap ((k : Int) + 1) = (k : Int) + 1 := IntWalk.i64_in _ (by omega)
        rcases hg : (get (lf.map Rec.abs) (digest x)).isSome with _ | _
        · have hgn : get (lf.map Rec.abs) (digest x) = none := by simpa using hg
          go_wp2_with (first
            | (refine wpList_store_row rfl 29 (.tmp 9) (.tmp 31) rfl W.heap.size cs rfl rfl 29 _ hD0 (by rw [hcs]; exact dig_info) (by rw [hcs]; rfl) h1 ?_
               change wpList _ _ _ _ _ ((W.alloc (.cells (Array.replicate 32 (B 0)) 29)).setRow W.heap.size cs)
               have hD1 := hD0.setRow cs
               have hO : W.grownBy ((W.alloc (.cells (Array.replicate 32 (B 0)) 29)).setRow W.heap.size cs) (some W.heap.size) := only_trans (only_alloc (World.grownBy.refl W _) _) (setRow_grown _ _ _)
               have hB2 : Below W.heap.size W ((W.alloc (.cells (Array.replicate 32 (B 0)) 29)).setRow W.heap.size cs) := ⟨hO.os, hO.tape, hO.output, hO.size, fun i hi => hO.block i hi (by intro e; injection e with e; omega)⟩
               generalize (W.alloc (.cells (Array.replicate 32 (B 0)) 29)).setRow W.heap.size cs = W1 at hD1 hB2 ⊢
               have hM1 := hM.below hB2)
            | (refine wpList_load_row rfl 29 (.tmp 9) rfl W.heap.size rfl 29 cs (0, 0) _ hD1 Tryd.underlying29 rfl (by rw [hcs]; exact dig_info) ?_)
            | (refine wpList_look rfl (.tmp 33) (.tmp 34) true rfl keyD Tryd.underlying56 slice_zero hM1.map (digest x) hdl rfl Ed.out.symm ?_; rw [look_some_get, hg]))
          refine wp_region_held_drew (S := fun w' => Blk w' W.heap.size 29 cs) (by kernel_rfl) hD1.drew (fun hHeld => ?_)
          refine wpAnyH_take (i := 0) (oi := _) (v := .map (some w.heap.size)) rfl (by kernel_rfl) (by kernel_rfl) (by kernel_rfl) (fun _ _ _ h => h) (Or.inl ⟨by rfl, fun w' hw' => by rfl⟩) hHeld ?_
          simp only [Act.put, List.setIfInBounds_toArray]
          refine wpAnyH_take (i := 1) (oi := _) (v := .agg cs) rfl (by kernel_rfl) (by kernel_rfl) (by kernel_rfl) (fun _ _ _ h => h) (Or.inl ⟨by rfl, fun w' hw' => exec_load_row 29 (.tmp 9) rfl W.heap.size rfl hw' Tryd.underlying29 rfl (by rw [hcs]; exact dig_info)⟩) hHeld ?_
          simp only [Act.put]
          refine wpAnyH_take (i := 2) (oi := _) (v := .slice vA x.length vcap) rfl (by kernel_rfl) (by kernel_rfl) (by kernel_rfl) (fun _ _ _ h => h) (Or.inl ⟨by rfl, fun w' hw' => by rfl⟩) hHeld ?_
          simp only [Act.put]
          refine wpAnyH_ready (rs := [3]) (by kernel_rfl) (by simp) (AllReadyH.cons rfl (fun K hK => ?_) AllReadyH.nil)
          go_simp
          refine (clone_any vA vcap x W1.drew (by omega) (((hvI.below hB).below hB2).below (Below.drew (Below.refl _ _))) HvN.out).mono ?_
          rintro e W2 ⟨v, rfl, hown, hB3⟩
          refine hK.out _ _ (hHeld.below hB3 hHeld.lt) (fun hHeld2 => ?_)
          have hM2 := (hM1.drewN 1).below hB3
          have hfresh : ∀ r ∈ lf, ∀ g, r.v.ownBlock = some g → v.ownBlock ≠ some g := by
            intro r hr g hg1 hg2
            have h1 := own_lt (hM1.own r hr) hg1
            have h2 := own_fresh hown hg2
            have h3 : W1.drew.heap.size = W1.heap.size := rfl
            omega
          have hWw := hB.size
          obtain ⟨W3, clk3, hrun, hM3, hG3, hz3⟩ := hM2.run_upd (digest x) x hdl v (own_base hown (Nat.zero_le _)) (fun g hg => by
            have h2 := own_fresh hown hg
            have h3 : W1.drew.heap.size = W1.heap.size := rfl
            have := hB2.size
            omega) hfresh
          refine wpAnyH_ready (rs := [4]) (by kernel_rfl) (by simp) (AllReadyH.cons rfl (fun K hK => ?_) AllReadyH.nil)
          rw [if_pos (by rfl)]
          refine exec_upd (T := 56) (m := .tmp 39) (x := .tmp 40) (v := .tmp 42) rfl rfl rfl rfl (by rw [← Ed.out]; exact hrun) rfl ?_
          refine hK.out _ _ (hHeld2.grown hG3 (by intro e; injection e with e; have := hM.map.lt; omega)) (fun _ => ?_)
          refine wpAnyH_done (by kernel_rfl) ?_ _
          have hB4a : w.heap.size ≤ W1.heap.size := Nat.le_trans hB.size hB2.size
          have hB4 : Below w.heap.size w W2 := ((hB.trans (hB2.mono hB.size)).drew).trans (hB3.mono hB4a)
          have hB5 : Below w.heap.size w W3 := below_of_only hB4 hG3 hB4.size (Nat.le_refl _)
          have hD3 : Blk W3 W.heap.size 29 cs := hHeld2.grown hG3 (by intro e; injection e with e; have := hM.map.lt; omega)
          have hnew : updR lf (digest x) x v clk = lf ++ [⟨digest x, x, v, clk⟩] := by
            unfold updR; rw [look_some_get, hg]; rfl
          rw [hnew] at hM3
          have Hhed := Lib.hid hHeld
          clear hHeld hHeld2 hM hM1 hM2 hB hB2 hB3 hB4 hG3 hrun hown hfresh hD0 hD1 hO hz3 hnew
          obtain ⟨mb, l, clock, hK0, hs, hH, hm⟩ := Hh.out
          have hKs := hK0.below hB5 hK0.lt
          have hHs := hH.below hB5
          have c2 := hKs.cell 2
          have Hm := Lib.hid hm
          clear hK0 hH hm
          go_wp2_with fail
          refine wp_region_quiet_lit (by kernel_rfl) (by kernel_rfl) ?_
          repeat (first | (first
            | (refine quiet_load_row 29 (.tmp 9) rfl rfl _ rfl hD3 Tryd.underlying29 rfl (by rw [hcs]; exact dig_info) ?_)
            | (refine quiet_look (.tmp 47) (.tmp 48) true rfl rfl keyD Tryd.underlying56 slice_zero hHs.map (digest x) hdl rfl Ed.out.symm ?_; rw [look_some_get, Hm.out])) | quiet_step (fail))
          refine wpQuiet_nil ?_
          intro _ hw'
          obtain ⟨nq, hw''⟩ := hw'
          subst hw''
          replace hB5 := Below.drewN hB5 nq
          replace hM3 := hM3.drewN nq
          clear hD3 hKs hHs c2
          generalize W3.drewN nq = W4 at hB5 hM3 ⊢
          have hstep : plan m (vs.map (·.2)) [] 0 = plan m ((vs.map (·.2)).drop (k + 1)) ((lf ++ [(⟨digest x, x, v, clk⟩ : Rec)]).map Rec.abs) (need + if (get m (digest x)).isSome then 0 else x.length) := by
            rw [Hplan.out, Hdrop.out]
            conv => lhs; unfold plan
            rw [if_neg hlong, hg]
            simp [Rec.abs]
          have htot2 : tot ((lf ++ [(⟨digest x, x, v, clk⟩ : Rec)]).map Rec.abs) ≤ lens ((vs.map (·.2)).take (k + 1)) := by
            have := Hlk.out
            have e : tot ((lf ++ [(⟨digest x, x, v, clk⟩ : Rec)]).map Rec.abs) = tot (lf.map Rec.abs) + x.length := by simp [tot, Rec.abs]
            omega
          have Hstep := Lib.hid hstep
          have Htot2 := Lib.hid htot2
          clear hstep htot2
          rcases hg2 : (get m (digest x)).isSome with _ | _
          · have hw2 : IntKind.i64.wrap ((need : Int) + (x.length : Int)) = (need : Int) + x.length := IntWalk.i64_in _ (by have := Hlall.out; have := Hlk.out; omega)
            go_wp2_with fail
            refine ⟨⟨k + 1, need + x.length, _, clk3, by simp, by simp, by omega, hM3, hB5, by have := Hlk.out; omega, ?_, Htot2.out⟩, by simp; omega⟩
            rw [Hstep.out, hg2]; rfl
          · go_wp2_with fail
            refine ⟨⟨k + 1, need, _, clk3, rfl, by simp, by omega, hM3, hB5, by have := Hlk.out; omega, ?_, Htot2.out⟩, by simp; omega⟩
            rw [Hstep.out, hg2]; rfl
        · go_wp2_with (first
            | (refine wpList_store_row rfl 29 (.tmp 9) (.tmp 31) rfl W.heap.size cs rfl rfl 29 _ hD0 (by rw [hcs]; exact dig_info) (by rw [hcs]; rfl) h1 ?_
               change wpList _ _ _ _ _ ((W.alloc (.cells (Array.replicate 32 (B 0)) 29)).setRow W.heap.size cs)
               have hD1 := hD0.setRow cs
               have hO : W.grownBy ((W.alloc (.cells (Array.replicate 32 (B 0)) 29)).setRow W.heap.size cs) (some W.heap.size) := only_trans (only_alloc (World.grownBy.refl W _) _) (setRow_grown _ _ _)
               have hB2 : Below W.heap.size W ((W.alloc (.cells (Array.replicate 32 (B 0)) 29)).setRow W.heap.size cs) := ⟨hO.os, hO.tape, hO.output, hO.size, fun i hi => hO.block i hi (by intro e; injection e with e; omega)⟩
               generalize (W.alloc (.cells (Array.replicate 32 (B 0)) 29)).setRow W.heap.size cs = W1 at hD1 hB2 ⊢
               have hM1 := hM.below hB2)
            | (refine wpList_load_row rfl 29 (.tmp 9) rfl W.heap.size rfl 29 cs (0, 0) _ hD1 Tryd.underlying29 rfl (by rw [hcs]; exact dig_info) ?_)
            | (refine wpList_look rfl (.tmp 33) (.tmp 34) true rfl keyD Tryd.underlying56 slice_zero hM1.map (digest x) hdl rfl Ed.out.symm ?_; rw [look_some_get, hg]))
          refine ⟨⟨k + 1, need, lf, clk, rfl, by simp, by omega, hM1, hB.trans (hB2.mono hB.size), by have := Hlk.out; omega, ?_, by have := Hlk.out; omega⟩, by simp; omega⟩
          rw [Hplan.out, Hdrop.out]
          conv => lhs; unfold plan
          rw [if_neg hlong, hg]
          rfl
    · have hkn : k = vs.length := by omega
      subst hkn
      obtain ⟨fm, hfm⟩ : ∃ fm, fm = lf.map Rec.abs := ⟨_, rfl⟩
      have hplan : plan m (vs.map (·.2)) [] 0 = some (fm, need) := by
        rw [Hplan.out, List.drop_of_length_le (by simp), hfm]; rfl
      rw [List.take_of_length_le (by simp), ← hfm] at htot
      rw [List.take_of_length_le (by simp)] at hneed
      have hP : ∀ e w', (Off F w w' ∧ if q - tot m < need then e = .returned (I 3) ∧ Store F w' s q (tot m) m else e = .returned (I 0) ∧ ∃ fm' : M, fm'.Perm fm ∧ Store F w' s q (tot (fm'.foldl mend m)) (fm'.foldl mend m)) → Post e w' := by
        intro e w' h
        rw [HP.out, hplan]
        exact h
      have hP' := Lib.hid hP
      have Hplan2 := Lib.hid hplan
      have Hfm := Lib.hid hfm
      clear hP hplan hfm Hplan HP
      obtain ⟨mb, l, clock, hK0, hs, hH, hm⟩ := Hh.out
      have hKs := hK0.below hB hK0.lt
      have c0 := hKs.cell 0
      have c1 := hKs.cell 1
      have Hm := Lib.hid hm
      have hw3 : IntKind.i64.wrap (q - (tot m : Int)) = q - tot m := IntWalk.i64_in _ (by omega)
      clear hm
      by_cases hfull : q - (tot m : Int) < need
      · go_wp2_with fail
        go_quiet (fail)
        replace hB := Below.drewN hB nq
        generalize wr.drewN nq = W1 at hB ⊢
        go_wp2_with fail
        refine hP'.out _ _ ⟨(Off.refl F w).below hB (Nat.le_refl _), ?_⟩
        rw [if_pos hfull]
        exact ⟨rfl, Hh.out.below hB⟩
      · go_wp2_with fail
        go_quiet (fail)
        replace hB := Below.drewN hB nq
        replace hM := hM.drewN nq
        clear hKs c0 c1
        generalize wr.drewN nq = W1 at hB hM ⊢
        have hmlt := hM.map.lt
        go_wp2_with (refine wpList_rng rfl (.tmp 70) rfl Tryd.underlying56 hM.map rfl (fun hI => ?_))
        have hrw : w.heap.size ≤ W1.heap.size := hB.size
        have hkeys : (m.map (·.1)).Nodup := by
          rw [← Hm.out]
          have := hH.map.keys
          rw [List.map_map] at this ⊢
          exact this
        have hL : Lay F w s mb clk q lf m [] l clock (W1.alloc (.mapIter (some w.heap.size) clk #[] clk)) :=
          ⟨by simp, by simp, hM.alloc _, by rw [Hm.out]; exact (hK0.below hB hK0.lt).alloc _, (hH.below hB).alloc _, Hm.out, ((Off.refl F w).below hB (Nat.le_refl _)).alloc _, hK0.lt, hH.map.lt, hs, hkeys,
            fun r hr g hg => .inl (own_lt (hH.own r hr) hg)⟩
        have hlf : tot (lf.map Rec.abs) ≤ lens (vs.map (·.2)) := by rw [← Hfm.out]; exact htot
        clear hM hB hH hkeys
        try simp only [Act.put, List.setIfInBounds_toArray, List.set_cons_zero, List.set_cons_succ]
        go_loopw [72] (fun _ wr => ∃ (dn l' : List Rec) (clock' : Nat), IterAt wr W1.heap.size w.heap.size clk (dn.map Rec.ent) ∧ Lay F w s mb clk q lf m dn l' clock' wr)
          (fun _ wr => lf.length - match wr.heap[W1.heap.size]? with | some (.mapIter _ _ s _) => s.size | _ => 0)
        case atStart => exact ⟨[], l, clock, hI, hL⟩
        case round =>
          clear hI hL
          obtain ⟨dn, l', clock', hI, hL⟩ := hrel
          by_cases hall : ∀ x ∈ lf.map Rec.ent, x.2.2 ∈ (dn.map Rec.ent).map (·.2.2)
          · go_wp2_with (refine wpList_nxt rfl (.tmp 71) rfl hL.fresh.map hI rfl (fun _ => ?_) (fun x w' hx hn _ _ _ _ => absurd (hall x hx) hn) (by omega))
            refine hP'.out _ _ ⟨hL.off, ?_⟩
            rw [if_neg (by omega)]
            refine ⟨rfl, dn.map Rec.abs, ?_, ?_⟩
            · rw [Hfm.out]; exact (hL.done hall).1
            · exact (hL.done hall).2
          · have hwr := hL.off.size
            have HI := Lib.hid hI
            go_wp2_with (first
              | (refine wpList_nxt rfl (.tmp 71) rfl hL.fresh.map hI rfl (fun h => absurd h hall) (fun x W2 hx hnx hI2 hG2 hz2 hent => ?_) (by omega)
                 obtain ⟨rx, hrx, rfl⟩ := List.mem_map.1 hx
                 change (Instr.entry _).run _ W2 = .ok (.tuple #[encD rx.d, rx.v]) W2 at hent
                 change wpList _ _ _ _ (Act.put _ _ (.tuple #[.bool true, encD rx.d, rx.v])) W2
                 have hdl : IsD rx.d := hL.fresh.map.good _ hx
                 obtain ⟨cs, ed, hcs, h1⟩ := encD_cells rx.d hdl
                 have Ed := Lib.hid ed
                 rw [ed] at hent ⊢
                 clear ed
                 have hL2 := hL.iter hI hrw hG2
                 have hW2 := hL2.off.size
                 have hD0 := Blk.new W2 29 (Array.replicate 32 (B 0))
                 clear hL hG2 hz2 hI hx)
              | (refine wpList_store_row rfl 29 (.tmp 14) (.tmp 75) rfl W2.heap.size cs rfl rfl 29 _ hD0 (by rw [hcs]; exact dig_info) (by rw [hcs]; rfl) h1 ?_
                 change wpList _ _ _ _ _ ((W2.alloc (.cells (Array.replicate 32 (B 0)) 29)).setRow W2.heap.size cs)
                 have hD1 := hD0.setRow cs
                 have hG3 : W2.grownBy ((W2.alloc (.cells (Array.replicate 32 (B 0)) 29)).setRow W2.heap.size cs) (some W2.heap.size) := only_trans (only_alloc (World.grownBy.refl W2 _) _) (setRow_grown _ _ _)
                 have hB3 : Below W2.heap.size W2 ((W2.alloc (.cells (Array.replicate 32 (B 0)) 29)).setRow W2.heap.size cs) := ⟨hG3.os, hG3.tape, hG3.output, hG3.size, fun i hi => hG3.block i hi (by intro e; injection e with e; omega)⟩
                 clear hG3 hent
                 generalize (W2.alloc (.cells (Array.replicate 32 (B 0)) 29)).setRow W2.heap.size cs = W3 at hD1 hB3 ⊢))
            have hI3 : IterAt W3 W1.heap.size w.heap.size clk ((dn ++ [rx]).map Rec.ent) := by
              rw [List.map_append]
              exact (hB3.block _ (Array.getElem?_eq_some_iff.1 hI2).1).trans hI2
            have hL3 := hL2.below hB3
            have c2 := hL3.blk.cell 2
            clear hL2 hI2 hD0
            refine wp_region_quiet_lit (by kernel_rfl) (by kernel_rfl) ?_
            repeat (first | (first
              | (refine quiet_load_row 29 (.tmp 14) rfl rfl _ rfl hD1 Tryd.underlying29 rfl (by rw [hcs]; exact dig_info) ?_)
              | (refine quiet_look (.tmp 81) (.tmp 82) true rfl rfl keyD Tryd.underlying56 slice_zero hL3.held.map rx.d hdl rfl Ed.out.symm ?_; rw [look_some_get])) | quiet_step (fail))
            refine wpQuiet_nil ?_
            intro _ hw'
            obtain ⟨nq, hw''⟩ := hw'
            subst hw''
            replace hI3 : IterAt (W3.drewN nq) W1.heap.size w.heap.size clk ((dn ++ [rx]).map Rec.ent) := hI3
            replace hL3 := hL3.drewN nq
            replace hD1 := hD1.drewN nq
            have hR3 := hR.off hL3.off hRF
            clear c2 hB3
            generalize W3.drewN nq = W4 at hI3 hL3 hD1 hR3 ⊢
            have hrt : rx.t ∉ dn.map Rec.t := by
              intro h; apply hnx
              rw [List.map_map]; exact h
            obtain ⟨bA, bcap, hbv, hbc⟩ := own_form (hL3.fresh.own rx hrx)
            have hrxc : rx.c.length ≤ tot (lf.map Rec.abs) := by
              unfold tot
              rw [List.map_map]
              have := some_sum (fun r => r.c.length) [rx] lf (by simpa using hrx) (by simp)
              simp only [List.map_cons, List.map_nil, List.sum_cons, List.sum_nil] at this
              exact Nat.le_trans (by omega) this
            have htl := hL3.size
            have hmeas : ∀ W, IterAt W W1.heap.size w.heap.size clk ((dn ++ [rx]).map Rec.ent) → (lf.length - match W.heap[W1.heap.size]? with | some (.mapIter _ _ s _) => s.size | _ => 0) < lf.length - match wr.heap[W1.heap.size]? with | some (.mapIter _ _ s _) => s.size | _ => 0 := by
              intro W hW
              have hI := HI.out
              unfold IterAt at hW hI
              rw [hW, hI]
              have hlt := hL3.more hrx hrt
              simp only [List.size_toArray, List.length_map, List.length_append, List.length_cons, List.length_nil]
              omega
            have Hmeas := Lib.hid hmeas
            clear hmeas
            rw [hbv]
            have Hbv := Lib.hid hbv
            clear hbv
            rcases look_rec l' rx.d with ⟨e1, e2⟩ | ⟨r, hr, hrd, e1, e2⟩
            · rw [e1, e2]
              simp only [Option.getD_none, Option.isSome_none]
              have E2 := Lib.hid e2
              clear e1 e2
              go_wp2_with fail
              go_quiet (fail)
              replace hI3 : IterAt (W4.drewN nq) W1.heap.size w.heap.size clk ((dn ++ [rx]).map Rec.ent) := hI3
              replace hL3 := hL3.drewN nq
              replace hD1 := hD1.drewN nq
              clear hR3
              generalize W4.drewN nq = W5 at hI3 hL3 hD1 ⊢
              have HG : Hid (∀ c, get (l'.map Rec.abs) rx.d = some c → digest c ≠ rx.d) := Lib.hid (fun c hc => by rw [E2.out] at hc; cases hc)
              have hlen : (((get (l'.map Rec.abs) rx.d).getD []).length : Int) = 0 := by rw [E2.out]; rfl
              have c1 := hL3.blk.cell 1
              have f1 := hL3.blk.frozen 1
              have hw4 : IntKind.i64.wrap ((rx.c.length : Int)) = rx.c.length := IntWalk.i64_in _ (by omega)
              have hw5 : IntKind.i64.wrap ((tot (l'.map Rec.abs) : Int) + (rx.c.length : Int)) = (tot (l'.map Rec.abs) : Int) + rx.c.length := IntWalk.i64_in _ (by omega)
              obtain ⟨W6, clk6, hrun, hL6, hI6⟩ := hL3.lay hrx hrt HG.out hF (n := (tot (l'.map Rec.abs) : Int) + rx.c.length) (by rw [hlen]; omega) hI3 hrw
              have Hrun := Lib.hid hrun
              clear hrun hlen
              go_wp2_with fail
              have hDs : Blk (W5.setCell ⟨s, 1, none⟩ (I ((tot (l'.map Rec.abs) : Int) + rx.c.length))).drew W2.heap.size 29 cs := (hD1.far (p := ⟨s, 1, none⟩) (fun (e : W2.heap.size = s) => by have := hL3.s_lt; omega) _).drew
              have c2 : (W5.setCell ⟨s, 1, none⟩ (I ((tot (l'.map Rec.abs) : Int) + rx.c.length))).cell? ⟨s, 2, none⟩ = some (.map (some mb)) := (hL3.blk.set_ 1 (I ((tot (l'.map Rec.abs) : Int) + rx.c.length))).cell 2
              clear c1 f1
              generalize W5.setCell ⟨s, 1, none⟩ (I ((tot (l'.map Rec.abs) : Int) + rx.c.length)) = W7 at hDs c2 Hrun ⊢
              refine wp_region_still_tail 6 (by kernel_rfl) (by kernel_rfl) ?_
              simp only [List.take_succ_cons, List.take_zero, List.drop_succ_cons, List.drop_zero]
              repeat (first | (refine still_load_row 29 (.tmp 14) rfl rfl _ rfl hDs Tryd.underlying29 rfl (by rw [hcs]; exact dig_info) ?_) | still_step)
              refine wpStill_nil ?_
              refine wpList_plain rfl fun K hK => ?_
              refine exec_upd (T := 56) (m := .tmp 108) (x := .tmp 109) (v := .tmp 110) rfl rfl rfl rfl (by rw [← Ed.out, ← Hbv.out]; exact Hrun.out) rfl ?_
              refine hK _ _ ?_
              clear hDs c2 hK
              go_wp2_with fail
              exact ⟨⟨_, _, _, hI6, hL6⟩, Hmeas.out _ hI6⟩
            · rw [e1, e2]
              simp only [Option.getD_some, Option.isSome_some]
              have E2 := Lib.hid e2
              clear e1 e2
              obtain ⟨hAv, hcapv, hrv, _⟩ := own_form (hL3.held.own r hr)
              have hrl : r.c.length ≤ tot (l'.map Rec.abs) := tot_get E2.out
              obtain ⟨cs2, ed2, _, _⟩ := encD_cells (digest r.c) (digest_length _)
              have heq : ∀ w : World, (Op.equalIn 10000 29 (.agg cs2) (.agg cs)).run Tryd.prog w = .ok (digest r.c == rx.d) w := by
                intro w
                rw [← ed2, ← Ed.out]
                exact run_equalIn_bytes w 9998 29 5 32 Tryd.underlying29 Tryd.underlying5 u8_size _ _ (digest_length _) hdl
              have hsum : ∀ W', Below W4.heap.size W4 W' → Calls Tryd.prog 27 #[.slice hAv r.c.length hcapv] W' fun e w'' => e = .returned (.agg cs2) ∧ Below W'.heap.size W' w'' := by
                intro W' hb
                rw [← ed2, ← hrv]
                exact sum_own r.v r.c W' (by omega) (hR3.below hb) ((hL3.below hb).held.own r hr)
              have Hsum := Lib.hid hsum
              rw [hrv]
              clear hsum ed2 hrv
              go_wp2_with fail
              rcases hsame : (digest r.c == rx.d) with _ | _
              · refine wp_region_quiet_below (by kernel_rfl) (by kernel_rfl) ?_
                repeat (first
                  | (refine quiet_load_row_below 29 (.tmp 14) rfl (by rfl) _ rfl hD1 Tryd.underlying29 rfl (by rw [hcs]; exact dig_info) ?_)
                  | quiet_step ((go_at_call 27; exact Calls.regrown_of (Hsum.out _ (below_regrown _ _ _)))))
                refine wpQuiet_nil ?_
                rintro W5 ⟨p5, hp5⟩
                have hB5 : Below W4.heap.size W4 W5 := hp5 ▸ below_regrown _ _ _
                have hI4 : IterAt W5 W1.heap.size w.heap.size clk ((dn ++ [rx]).map Rec.ent) := (hB5.block _ (Array.getElem?_eq_some_iff.1 hI3).1).trans hI3
                have hL4 := hL3.below hB5
                have hD4 := hD1.below hB5 hD1.lt
                have Hne : Hid (digest r.c ≠ rx.d) := Lib.hid (by simpa using hsame)
                clear hI3 hL3 hD1 hp5 hB5 hR3 hsame heq Hsum
                have HG : Hid (∀ c, get (l'.map Rec.abs) rx.d = some c → digest c ≠ rx.d) := Lib.hid (fun c hc => by rw [E2.out] at hc; injection hc with hc; rw [← hc]; exact Hne.out)
                have hlen : (((get (l'.map Rec.abs) rx.d).getD []).length : Int) = r.c.length := by rw [E2.out]; rfl
                have c1 := hL4.blk.cell 1
                have f1 := hL4.blk.frozen 1
                have hw4 : IntKind.i64.wrap ((rx.c.length : Int) - r.c.length) = (rx.c.length : Int) - r.c.length := IntWalk.i64_in _ (by omega)
                have hw5 : IntKind.i64.wrap ((tot (l'.map Rec.abs) : Int) + ((rx.c.length : Int) - r.c.length)) = (tot (l'.map Rec.abs) : Int) + ((rx.c.length : Int) - r.c.length) := IntWalk.i64_in _ (by omega)
                obtain ⟨W6, clk6, hrun, hL6, hI6⟩ := hL4.lay hrx hrt HG.out hF (n := (tot (l'.map Rec.abs) : Int) + ((rx.c.length : Int) - r.c.length)) (by rw [hlen]; omega) hI4 hrw
                have Hrun := Lib.hid hrun
                clear hrun hlen
                go_wp2_with fail
                have hDs : Blk (W5.setCell ⟨s, 1, none⟩ (I ((tot (l'.map Rec.abs) : Int) + ((rx.c.length : Int) - r.c.length)))).drew W2.heap.size 29 cs := (hD4.far (p := ⟨s, 1, none⟩) (fun (e : W2.heap.size = s) => by have := hL4.s_lt; omega) _).drew
                have c2 : (W5.setCell ⟨s, 1, none⟩ (I ((tot (l'.map Rec.abs) : Int) + ((rx.c.length : Int) - r.c.length)))).cell? ⟨s, 2, none⟩ = some (.map (some mb)) := (hL4.blk.set_ 1 (I ((tot (l'.map Rec.abs) : Int) + ((rx.c.length : Int) - r.c.length)))).cell 2
                clear c1 f1
                generalize W5.setCell ⟨s, 1, none⟩ (I ((tot (l'.map Rec.abs) : Int) + ((rx.c.length : Int) - r.c.length))) = W7 at hDs c2 Hrun ⊢
                refine wp_region_still_tail 6 (by kernel_rfl) (by kernel_rfl) ?_
                simp only [List.take_succ_cons, List.take_zero, List.drop_succ_cons, List.drop_zero]
                repeat (first | (refine still_load_row 29 (.tmp 14) rfl rfl _ rfl hDs Tryd.underlying29 rfl (by rw [hcs]; exact dig_info) ?_) | still_step)
                refine wpStill_nil ?_
                refine wpList_plain rfl fun K hK => ?_
                refine exec_upd (T := 56) (m := .tmp 108) (x := .tmp 109) (v := .tmp 110) rfl rfl rfl rfl (by rw [← Ed.out, ← Hbv.out]; exact Hrun.out) rfl ?_
                refine hK _ _ ?_
                clear hDs c2 hK
                go_wp2_with fail
                exact ⟨⟨_, _, _, hI6, hL6⟩, Hmeas.out _ hI6⟩
              · refine wp_region_quiet_below (by kernel_rfl) (by kernel_rfl) ?_
                repeat (first
                  | (refine quiet_load_row_below 29 (.tmp 14) rfl (by rfl) _ rfl hD1 Tryd.underlying29 rfl (by rw [hcs]; exact dig_info) ?_)
                  | quiet_step ((go_at_call 27; exact Calls.regrown_of (Hsum.out _ (below_regrown _ _ _)))))
                refine wpQuiet_nil ?_
                rintro W5 ⟨p5, hp5⟩
                have hB5 : Below W4.heap.size W4 W5 := hp5 ▸ below_regrown _ _ _
                have hI4 : IterAt W5 W1.heap.size w.heap.size clk ((dn ++ [rx]).map Rec.ent) := (hB5.block _ (Array.getElem?_eq_some_iff.1 hI3).1).trans hI3
                have hL4 := (hL3.same hrx hrt E2.out (by simpa using hsame)).below hB5
                clear hI3 hL3 hD1 hp5 hB5 hR3 hsame heq Hsum
                go_wp2_with fail
                exact ⟨⟨_, _, _, hI4, hL4⟩, Hmeas.out _ hI4⟩
end Go.Proofs.YtmjaclgbagogfaaDoor
