/- The small functions of a store. -/
import Derived.Test.YtmjaclgbagogfaaDoorSto
import Derived.Test.YtmjaclgbagogfaaDoorArms
import Derived.Carry
import Derived.BigRegion
namespace Go.Proofs.YtmjaclgbagogfaaDoor
open Go.RowKit Go.Maps Go.MapKept Go.Proofs.YtmjaclgbagogfaaDoor.Sha

theorem bytes_any (F : Nat → Prop) (s : Nat) (q n : Int) (m : M) (w : World) (h : Store F w s q n m) :
    Calls Tryd.prog 8 #[.pointer (some ⟨s, 0, none⟩)] w fun e w' => e = .returned (I n) ∧ w' = w := by
  obtain ⟨mb, l, clock, hK, hs, hH, hm⟩ := h
  have c1 := (hK.cell 1)
  go_enter Tryd.func8, Tryd.ntmps8
  go_wp2_with fail
  go_ret
  exact ⟨rfl, rfl⟩
theorem new_any (F : Nat → Prop) (q : Int) (w : World) (hF : ∀ i, w.heap.size ≤ i → F i) :
    Calls Tryd.prog 7 #[I q] w fun e w' => ∃ s, e = .returned (.pointer (some ⟨s, 0, none⟩)) ∧ Store F w' s (max q 0) 0 [] ∧ Below w.heap.size w w' := by
  have hmm := @run_makeMap Tryd.prog
  have hst : Blk ((w.alloc (.map #[] 0)).alloc (.cells #[I (max q 0), I 0, .map (some w.heap.size)] 58)) (w.heap.size + 1) 58 #[I (max q 0), I 0, .map (some w.heap.size)] := by
    have := Blk.new (w.alloc (.map #[] 0)) 58 #[I (max q 0), I 0, .map (some w.heap.size)]
    rwa [World.size_alloc] at this
  have hend : ∀ w', w' = (w.alloc (.map #[] 0)).alloc (.cells #[I (max q 0), I 0, .map (some w.heap.size)] 58) → Store F w' (w.heap.size + 1) (max q 0) 0 [] ∧ Below w.heap.size w w' := by
    rintro _ rfl
    have hm : MapAt (w.alloc (.map #[] 0)) w.heap.size encD IsD (([] : List Rec).map Rec.ent) 0 := MapAt.made w _ _
    exact ⟨⟨w.heap.size, [], 0, hst, hF _ (by omega), ⟨hm.alloc _, hF _ (by omega), by simp, by simp, List.Pairwise.nil⟩, rfl⟩, ((Below.refl _ w).alloc (Nat.le_refl _) _).alloc (by simp) _⟩
  clear hst
  rcases Int.lt_or_le q 0 with hq | hq
  · have e : max q 0 = 0 := by omega
    rw [e] at hend ⊢
    go_enter Tryd.func7, Tryd.ntmps7
    go_wp2_with fail
    go_ret
    exact ⟨w.heap.size + 1, rfl, hend _ rfl⟩
  · have e : max q 0 = q := by omega
    rw [e] at hend ⊢
    go_enter Tryd.func7, Tryd.ntmps7
    go_wp2_with fail
    go_ret
    exact ⟨w.heap.size + 1, rfl, hend _ rfl⟩
theorem count_any (F : Nat → Prop) (s : Nat) (q n : Int) (m : M) (w : World) (h : Store F w s q n m) :
    Calls Tryd.prog 20 #[.pointer (some ⟨s, 0, none⟩)] w fun e w' => e = .returned (I m.length) ∧ w' = w := by
  obtain ⟨mb, l, clock, hK, hs, hH, hm⟩ := h
  have c2 := (hK.cell 2)
  have hlen := run_len Tryd.underlying56 hH.map
  have Hm := Lib.hid hm
  clear hm
  go_enter Tryd.func20, Tryd.ntmps20
  go_wp2_with fail
  go_ret
  refine ⟨ret_int ?_, rfl⟩
  rw [← Hm.out]; simp
theorem slice_zero : ∀ w, (zeroValue 31).run Tryd.prog w = .ok (.slice none 0 0) w := by
  intro w
  have h : (Tryd.prog.info? 31).bind (·.zero) = some (.slice none 0 0) := by kernel_rfl
  obtain ⟨i, hi, hz⟩ := Option.bind_eq_some_iff.1 h
  simp [zeroValue, typeInfo, hi, hz]
/-- What a store has under a digest, looked up in any later world of the same memory. -/
theorem Held.looks {F : Nat → Prop} {w : World} {mb clock : Nat} {l : List Rec} (h : Held F w mb l clock) (d : List UInt8) (hd : IsD d) (n : Nat) :
    (Instr.lookup 56 (.map (some mb)) (encD d) true).run Tryd.prog (w.drewN n) = .ok (.tuple #[(look (l.map Rec.ent) d).getD (.slice none 0 0), .bool (get (l.map Rec.abs) d).isSome]) (w.drewN n) := by
  have := run_look keyD Tryd.underlying56 slice_zero (h.map.drewN n) d hd true
  rw [look_some_get] at this
  exact this
theorem encD_cells (d : List UInt8) (hd : IsD d) : ∃ cs : Array Value, encD d = .agg cs ∧ cs.size = 32 ∧ cs.all (·.oneCell') = true :=
  ⟨_, rfl, by have : d.length = 32 := hd; simp [this], dig_one d⟩
theorem has_any (F : Nat → Prop) (s : Nat) (q n : Int) (m : M) (d : List UInt8) (hd : IsD d) (w : World) (h : Store F w s q n m) :
    Calls Tryd.prog 9 #[.pointer (some ⟨s, 0, none⟩), encD d] w fun e w' => e = .returned (.bool (get m d).isSome) ∧ Below w.heap.size w w' := by
  obtain ⟨mb, l, clock, hK, hs, hH, rfl⟩ := h
  obtain ⟨cs, ed, hcs, h1⟩ := encD_cells d hd
  have hD := Blk.new w 29 cs
  have c2 := (hK.alloc (.cells cs 29)).cell 2
  have hM := hH.map.alloc (.cells cs 29)
  have hB : Below w.heap.size w (w.alloc (.cells cs 29)) := (Below.refl _ w).alloc (Nat.le_refl _) _
  have Ed := Lib.hid ed
  rw [ed]
  clear ed hH hK
  go_enter Tryd.func9, Tryd.ntmps9
  go_wp2_with fail
  generalize w.alloc (.cells cs 29) = W0 at hD c2 hB hM ⊢
  refine wp_region_quiet_lit (by kernel_rfl) (by kernel_rfl) ?_
  repeat (first | (first
    | (refine quiet_load_row 29 (.tmp 3) rfl rfl _ rfl hD Tryd.underlying29 rfl (by rw [hcs]; exact dig_info) ?_)
    | (refine quiet_look (.tmp 13) (.tmp 14) true rfl rfl keyD Tryd.underlying56 slice_zero hM d hd rfl Ed.out.symm ?_; rw [look_some_get])) | quiet_step (fail))
  refine wpQuiet_nil ?_
  intro _ hw'
  obtain ⟨nq, hw''⟩ := hw'
  subst hw''
  replace hB := Below.drewN hB nq
  generalize W0.drewN nq = W at hB ⊢
  go_wp2_with fail
  go_ret
  exact ⟨rfl, hB⟩
theorem own_form {w : World} {v : Value} {c : List UInt8} (h : Own w v c) : ∃ A cap, v = .slice A c.length cap ∧ c.length ≤ cap := by
  rcases h.2 with ⟨hv, h0⟩ | ⟨g', cap, cur, hv, _, _, hnc, _⟩
  · exact ⟨none, 0, by rw [hv, h0], by omega⟩
  · exact ⟨_, cap, hv, by omega⟩
theorem Held.del {F : Nat → Prop} {w w1 : World} {mb clock : Nat} {l : List Rec} (h : Held F w mb l clock) (d : List UInt8) (hm : MapAt w1 mb encD IsD (Go.Proofs.YtmjaclgbagogfaaDoor.del (l.map Rec.ent) d) clock) (hg : w.grownBy w1 (some mb)) : Held F w1 mb (delR l d) clock := by
  have hs : (delR l d).Sublist l := List.filter_sublist
  refine ⟨by rw [delR_ent]; exact hm, h.here, fun r hr => own_keep (h.own r (hs.subset hr)) fun g hv => ?_, fun r hr => h.own_in r (hs.subset hr), h.apart.sublist hs⟩
  exact hg.block g (own_lt (h.own r (hs.subset hr)) hv) (by rw [← hv]; exact map_ne_own (h.own r (hs.subset hr)) h.map)
theorem drop_none {m : M} {d : List UInt8} (h : get m d = none) : drop m d = m := List.filter_eq_self.2 fun x hx => by simpa using (get_none m d).1 h x hx
set_option maxRecDepth 100000 in
theorem drop_any (F : Nat → Prop) (s : Nat) (q n : Int) (m : M) (d : List UInt8) (hd : IsD d) (w : World) (h : Store F w s q n m) (hn : 0 ≤ n) (hn2 : n ≤ 4611686018427387904) (hc : ∀ c, get m d = some c → c.length ≤ n) :
    Calls Tryd.prog 12 #[.pointer (some ⟨s, 0, none⟩), encD d] w fun e w' => (e = .returned (I (if (get m d).isSome then 0 else 50))) ∧
      Store F w' s q (n - ((get m d).getD []).length) (drop m d) ∧ Off F w w' := by
  obtain ⟨code, hcode⟩ : ∃ k : Int, k = if (get m d).isSome then 0 else 50 := ⟨_, rfl⟩
  rw [← hcode]
  have Hcode := Lib.hid hcode
  clear hcode
  obtain ⟨mb, l, clock, hK, hs, hH, hm⟩ := h
  obtain ⟨cs, ed, hcs, h1⟩ := encD_cells d hd
  have hD := Blk.new w 29 cs
  have hM := hH.alloc (.cells cs 29)
  have hK0 := hK.alloc (.cells cs 29)
  have hB : Off F w (w.alloc (.cells cs 29)) := (Off.refl _ w).alloc _
  have c2 := hK0.cell 2
  have Ed := Lib.hid ed
  have Hm := Lib.hid hm
  rw [ed]
  have hsl := hK.lt
  clear ed hH hK hm
  go_enter Tryd.func12, Tryd.ntmps12
  go_wp2_with fail
  generalize w.alloc (.cells cs 29) = W0 at hD c2 hB hM hK0 ⊢
  refine wp_region_quiet_lit (by kernel_rfl) (by kernel_rfl) ?_
  repeat (first | (first
    | (refine quiet_load_row 29 (.tmp 3) rfl rfl _ rfl hD Tryd.underlying29 rfl (by rw [hcs]; exact dig_info) ?_)
    | (refine quiet_look (.tmp 13) (.tmp 14) true rfl rfl keyD Tryd.underlying56 slice_zero hM.map d hd rfl Ed.out.symm ?_; rw [look_some_get])) | quiet_step (fail))
  refine wpQuiet_nil ?_
  intro _ hw'
  obtain ⟨nq, hw''⟩ := hw'
  subst hw''
  replace hB := hB.drewN nq
  replace hM := hM.drewN nq
  replace hK0 := hK0.drewN nq
  replace hD := hD.drewN nq
  clear c2
  generalize W0.drewN nq = W at hB hM hK0 hD ⊢
  rcases look_rec l d with ⟨e1, e2⟩ | ⟨r, hr, hrd, e1, e2⟩
  · rw [e1, e2]
    have e3 : get m d = none := by rw [← Hm.out]; exact e2
    have hend : I code = I 50 ∧ Store F W s q (n - ((get m d).getD []).length) (drop m d) ∧ Off F w W := by
      rw [Hcode.out, e3, drop_none e3]
      exact ⟨rfl, ⟨mb, l, clock, by simpa using hK0, hs, hM, Hm.out⟩, hB⟩
    go_wp2_with fail
    go_ret
    exact ⟨congrArg _ hend.1.symm, hend.2⟩
  · rw [e1, e2]
    obtain ⟨A, cap, hv, hcap⟩ := own_form (hM.own r hr)
    have e3 : get m d = some r.c := by rw [← Hm.out]; exact e2
    have hle := hc r.c e3
    have hcode : code = 0 := by rw [Hcode.out, e3]; rfl
    subst hcode
    rw [hv]
    simp only [Option.getD_some, Option.isSome_some]
    have c1 := hK0.cell 1
    have f1 := hK0.frozen 1
    have hw : IntKind.i64.wrap (n - (r.c.length : Int)) = n - r.c.length := IntWalk.i64_in _ (by omega)
    go_wp2_with fail
    replace hB := hB.set_ (p := ⟨s, 1, none⟩) hs (I (n - r.c.length))
    have hne1 : mb ≠ s := by
      rintro rfl
      have := hM.map.heap
      rw [hK0] at this
      cases this
    have hM2 := hM.keep1 (w1 := W.setCell ⟨s, 1, none⟩ (I (n - r.c.length))) (Below.heap_setCell _ _ _ _ hne1) (fun r' hr' g hg => Below.heap_setCell _ _ _ _ (fun (e : g = s) => own_blk_ne (hM.own r' hr') hK0 (by decide) (by rw [hg, e])))
    replace hD := hD.far (p := ⟨s, 1, none⟩) (by have := hsl; intro (e : w.heap.size = s); omega) (I (n - r.c.length))
    replace hK0 := hK0.set_ 1 (I (n - r.c.length))
    clear hM c1 f1
    generalize W.setCell ⟨s, 1, none⟩ (I (n - r.c.length)) = W2 at hB hM2 hD hK0 ⊢
    have c2 := hK0.cell 2
    refine wp_region_still_tail 5 (by kernel_rfl) (by kernel_rfl) ?_
    simp only [List.take_succ_cons, List.take_zero, List.drop_succ_cons, List.drop_zero]
    repeat (first | (refine still_load_row 29 (.tmp 3) rfl rfl _ rfl hD.drew Tryd.underlying29 rfl (by rw [hcs]; exact dig_info) ?_) | still_step)
    refine wpStill_nil ?_
    refine wpList_del rfl (.tmp 32) (.tmp 33) rfl keyD Tryd.underlying56 (hM2.map.drewN 1) d hd rfl Ed.out.symm ?_
    intro W3 hM3 hG3 hz3
    have hM4 := (hM2.drewN 1).del d hM3 hG3
    have hK4 := (hK0.drewN 1).grown hG3 (by intro e; injection e with e; exact hne1 e.symm)
    have hB4 : Off F w W3 := (hB.drewN 1).grown hG3 (by rintro g e _; injection e with e; rw [← e]; exact hM2.here)
    clear hB hM2 hK0 hD c2 hM3 hG3 hz3
    go_wp2_with fail
    go_ret
    refine ⟨rfl, ⟨mb, _, clock, ?_, hs, hM4, by rw [delR_abs, Hm.out]⟩, hB4⟩
    rw [e3]
    exact hK4
end Go.Proofs.YtmjaclgbagogfaaDoor
