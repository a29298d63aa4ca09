/- A store's Put and Get. -/
import Derived.Test.YtmjaclgbagogfaaDoorStoP
namespace Go.Proofs.YtmjaclgbagogfaaDoor
open Go.RowKit Go.Maps Go.MapKept Go.Proofs.YtmjaclgbagogfaaDoor.Sha

theorem Bs.alloc {F G : Nat → Prop} {w : World} {v : Value} {l : List UInt8} (h : Bs F w v l) (o : Obj) (hG : ∀ g, g < w.heap.size → G g → F g) : Bs G (w.alloc o) v l := by
  obtain ⟨A, cap, e, hc, hN, h⟩ := h
  refine ⟨A, cap, e, hc, hN, fun hne => ?_⟩
  obtain ⟨b, o', h1, h2, h3, h4⟩ := h hne
  exact ⟨b, o', h1, by simp; omega, fun g => h3 (hG b h2 g), fun j hj => cell_new (h4 j hj) h2⟩
def putCode (m : M) (q : Int) (b : List UInt8) : Int :=
  if 4096 < b.length then 2 else if q - tot m < (if (get m (digest b)).isSome then (0 : Nat) else b.length : Nat) then 3 else 0
def putTo (m : M) (q : Int) (b : List UInt8) : M := if putCode m q b = 0 then mend m (digest b, b) else m
theorem plan_one (m : M) (b : List UInt8) : plan m [b] [] 0 = if 4096 < b.length then none else some ([(digest b, b)], if (get m (digest b)).isSome then 0 else b.length) := by
  unfold plan
  split
  · rfl
  · rw [if_neg (by simp [get])]
    unfold plan
    simp
theorem results_row_tmp {P : Program} {fn : Func} {p r : Tmp} {ty : TypeId} (h : fn.results = #[.cell p ty, .tmp r]) (tmps : Array Value) (w : World) (g : Nat) (t : TypeId) (cs : Array Value) (fr : Nat × Nat) (d : TypeDesc)
    (hp : tmps.getD p undef = .pointer (some ⟨g, 0, none⟩)) (hg : w.heap[g]? = some (.cells cs t fr))
    (hu : P.underlying ty = some d) (hd : (match d with | .struct _ | .array _ _ => true | _ => false) = true) (hi : (P.info? ty).map (·.size) = some cs.size) (v : Value) (hv : tmps.getD r undef = v) :
    (results fn tmps).run P w = .ok (.tuple #[.agg cs, v]) w := by
  have hp' : tmps[p]?.getD undef = .pointer (some ⟨g, 0, none⟩) := by simpa using hp
  have hv' : tmps[r]?.getD undef = v := by simpa using hv
  simp [results, h, hp', hv', asAddr, run_loadVar_row w g t ty cs fr d hg hu hd hi]
theorem Store.setRow {F : Nat → Prop} {w : World} {s g : Nat} {q n : Int} {m : M} (h : Store F w s q n m) (hg : ¬ F g) (cs : Array Value) : Store F (w.setRow g cs) s q n m :=
  h.off (G := fun i => i = g) ⟨rfl, rfl, rfl, (setRow_grown w g cs).size, fun i hi hn => (setRow_grown w g cs).block i hi (by intro e; injection e with e; exact hn e)⟩ (fun i _ hf e => hg (by rw [← e]; exact hf))
theorem Off.setRow {F : Nat → Prop} {w w1 : World} {g : Nat} (h : Off F w w1) (hg : w.heap.size ≤ g) (cs : Array Value) : Off F w (w1.setRow g cs) :=
  h.grown (setRow_grown w1 g cs) (fun i e hi => by injection e with e; omega)
set_option maxHeartbeats 1000000 in
theorem put_any (F : Nat → Prop) (s : Nat) (q : Int) (m : M) (v : Value) (b : List UInt8) (w : World)
    (hF : ∀ i, w.heap.size ≤ i → F i) (hR : Rounds w) (hRF : ¬ F 0) (hV : Bs F w v b)
    (h : Store F w s q (tot m) m) (hq : 0 ≤ q) (hq2 : q ≤ 9223372036854775807) (hbig : tot m + b.length ≤ 1125899906842624) :
    Calls Tryd.prog 11 #[.pointer (some ⟨s, 0, none⟩), v] w fun e w' => Off F w w' ∧
      e = .returned (.tuple #[if putCode m q b = 0 then encD (digest b) else .agg (Array.replicate 32 (B 0)), I (putCode m q b)]) ∧ Store F w' s q (tot (putTo m q b)) (putTo m q b) := by
  obtain ⟨vA, vcap, hve, hvc, hvN, hvI⟩ := hV.in_
  have hR0 := Blk.new w 29 (Array.replicate 32 (B 0))
  have hB0 : Below w.heap.size w (w.alloc (.cells (Array.replicate 32 (B 0)) 29)) := (Below.refl _ w).alloc (Nat.le_refl _) _
  have hF0 : ∀ o o', w.heap.size + 1 < ((w.alloc o).alloc o').heap.size := fun o o' => by simp
  have Hve := Lib.hid hve
  rw [hve]
  clear hve
  have hd : IsD (digest b) := digest_length b
  obtain ⟨cs, ed, hcs, h1⟩ := encD_cells (digest b) hd
  have Ed := Lib.hid ed
  have hpl := plan_one m b
  have hcode : putCode m q b = if 4096 < b.length then 2 else if q - tot m < (if (get m (digest b)).isSome then (0 : Nat) else b.length : Nat) then 3 else 0 := rfl
  have hto : putTo m q b = if putCode m q b = 0 then mend m (digest b, b) else m := rfl
  generalize putCode m q b = code at hcode hto ⊢
  generalize putTo m q b = m' at hto ⊢
  have Hpl := Lib.hid hpl
  have Hcode := Lib.hid hcode
  have Hto := Lib.hid hto
  rw [ed]
  clear ed hpl hcode hto
  have hs : Store (fun g => F g ∧ g ≠ w.heap.size ∧ g ≠ w.heap.size + 1) w s q (tot m) m := h.weak (fun i hi hf => ⟨hf, by omega, by omega⟩)
  have hb : Bs (fun g => F g ∧ g ≠ w.heap.size ∧ g ≠ w.heap.size + 1) w v b := hV.weak (fun i hi hf => hf.1)
  go_enter Tryd.func11, Tryd.ntmps11
  go_wp2_with fail
  change Calls _ _ _ ((w.alloc (.cells (Array.replicate 32 (B 0)) 29)).alloc (.cells #[.slice vA b.length vcap] 31)) _
  have hB1 : Below w.heap.size w ((w.alloc (.cells (Array.replicate 32 (B 0)) 29)).alloc (.cells #[.slice vA b.length vcap] 31)) := hB0.alloc (by simp) _
  have hZ : Blk ((w.alloc (.cells (Array.replicate 32 (B 0)) 29)).alloc (.cells #[.slice vA b.length vcap] 31)) w.heap.size 29 (Array.replicate 32 (B 0)) := hR0.alloc _
  have hL : Blk ((w.alloc (.cells (Array.replicate 32 (B 0)) 29)).alloc (.cells #[.slice vA b.length vcap] 31)) (w.heap.size + 1) 31 #[.slice vA b.length vcap] := by
    have := Blk.new (w.alloc (.cells (Array.replicate 32 (B 0)) 29)) 31 #[.slice vA b.length vcap]
    rwa [World.size_alloc] at this
  have hz2 : ((w.alloc (.cells (Array.replicate 32 (B 0)) 29)).alloc (.cells #[.slice vA b.length vcap] 31)).heap.size = w.heap.size + 2 := by simp
  generalize (w.alloc (.cells (Array.replicate 32 (B 0)) 29)).alloc (.cells #[.slice vA b.length vcap] 31) = W at hB1 hZ hL hz2 ⊢
  have hsW := hs.below hB1
  have hbW : Bs (fun g => F g ∧ g ≠ w.heap.size ∧ g ≠ w.heap.size + 1) W v b := hb.off (Off.below (Off.refl (fun _ => False) w) hB1 (Nat.le_refl _)) (fun _ _ h => h.elim)
  have hRW := hR.below hB1
  refine (putall_any (fun g => F g ∧ g ≠ w.heap.size ∧ g ≠ w.heap.size + 1) s q m (some ⟨w.heap.size + 1, 0, none⟩) 1 [(.slice vA b.length vcap, b)] W (fun i hi => ⟨hF i (by omega), by omega, by omega⟩) hRW (fun h => hRF h.1) (fun _ => ⟨w.heap.size + 1, 0, rfl, by omega, fun h => h.2.2 rfl, fun j x hx => ?_⟩)
    (by simp) (by simp) hsW hq hq2 (by simp [lens]; omega)).mono ?_
  · have hj : j = 0 := by
      rcases j with _ | j
      · rfl
      · simp at hx
    subst hj
    simp only [List.getElem?_cons_zero, Option.some.injEq] at hx
    subst hx
    exact ⟨(hL.cell 0), by rw [← Hve.out]; exact hbW⟩
  rintro e W2 ⟨hO, hmt⟩
  simp only [List.map_cons, List.map_nil] at hmt
  rw [Hpl.out] at hmt
  have hO2 : Off F w W2 := ((Off.refl F w).below hB1 (Nat.le_refl _)).trans hO (fun i hi h => h.1)
  have hZ2 := hZ.off hO (fun h => h.2.1 rfl)
  have hR2 := hRW.off hO (fun h => hRF h.1)
  have hb2 := hbW.off hO (fun _ _ h => h)
  have hwk : ∀ W' q n m', Store (fun g => F g ∧ g ≠ w.heap.size ∧ g ≠ w.heap.size + 1) W' s q n m' → Store F W' s q n m' := fun W' q n m' h => h.weak (fun i hi hf => hf.1)
  have hsz : ((Array.replicate 32 (B 0)) : Array Value).size = 32 := rfl
  have hone : ((Array.replicate 32 (B 0)) : Array Value).all (·.oneCell') = true := by kernel_rfl
  clear hZ hL hB1 hsW hbW hRW hs hb hO hR0 hB0 hF0
  by_cases hlong : 4096 < b.length
  · rw [if_pos hlong] at hmt
    obtain ⟨rfl, hst⟩ := hmt
    have e2 : code = 2 := by rw [Hcode.out, if_pos hlong]
    subst e2
    have e3 : m' = m := by rw [Hto.out, if_neg (by omega)]
    subst e3
    have hend := hwk _ _ _ _ (hst.setRow (g := w.heap.size) (fun h => h.2.1 rfl) (Array.replicate 32 (B 0)))
    have hoff := hO2.setRow (g := w.heap.size) (Nat.le_refl _) (Array.replicate 32 (B 0))
    have hZ3 := hZ2.setRow (Array.replicate 32 (B 0))
    clear hwk hst hO2
    go_wp2_with (refine wpList_store_row rfl 29 (.tmp 4) (.tmp 13) rfl w.heap.size _ rfl rfl 29 _ hZ2 (by exact dig_info) (by rfl) (by exact hone) ?_)
    refine bodyPost_ret (results_row_tmp rfl _ _ w.heap.size 29 _ (0, 0) _ rfl hZ3 Tryd.underlying29 rfl (by exact dig_info) _ rfl) rfl ?_
    exact ⟨hoff, rfl, hend⟩
  · rw [if_neg hlong] at hmt
    dsimp only at hmt
    by_cases hfull : q - (tot m : Int) < (if (get m (digest b)).isSome then (0 : Nat) else b.length : Nat)
    · rw [if_pos hfull] at hmt
      obtain ⟨rfl, hst⟩ := hmt
      have e2 : code = 3 := by rw [Hcode.out, if_neg hlong, if_pos hfull]
      subst e2
      have e3 : m' = m := by rw [Hto.out, if_neg (by omega)]
      subst e3
      have hend := hwk _ _ _ _ (hst.setRow (g := w.heap.size) (fun h => h.2.1 rfl) (Array.replicate 32 (B 0)))
      have hoff := hO2.setRow (g := w.heap.size) (Nat.le_refl _) (Array.replicate 32 (B 0))
      have hZ3 := hZ2.setRow (Array.replicate 32 (B 0))
      clear hwk hst hO2
      go_wp2_with (refine wpList_store_row rfl 29 (.tmp 4) (.tmp 13) rfl w.heap.size _ rfl rfl 29 _ hZ2 (by exact dig_info) (by rfl) (by exact hone) ?_)
      refine bodyPost_ret (results_row_tmp rfl _ _ w.heap.size 29 _ (0, 0) _ rfl hZ3 Tryd.underlying29 rfl (by exact dig_info) _ rfl) rfl ?_
      exact ⟨hoff, rfl, hend⟩
    · rw [if_neg hfull] at hmt
      obtain ⟨rfl, fm', hp, hst⟩ := hmt
      have e2 : code = 0 := by rw [Hcode.out, if_neg hlong, if_neg hfull]
      subst e2
      have e3 : m' = mend m (digest b, b) := by rw [Hto.out, if_pos rfl]
      have e4 : fm' = [(digest b, b)] := List.perm_singleton.1 hp
      subst e4
      simp only [List.foldl_cons, List.foldl_nil] at hst
      rw [← e3] at hst
      clear e3 hp hfull hlong
      go_wp2_with fail
      refine (sum_any vA vcap b W2 (by omega) hvc hR2.1 hR2.2 ?_).mono ?_
      · obtain ⟨A', cap', hv', _, _, h5⟩ := hb2
        rw [Hve.out] at hv'
        injection hv' with e1 _ _
        intro hne
        obtain ⟨g, o, h6, h7, _, h8⟩ := h5 hne
        exact ⟨g, o, by rw [← h6, e1], h7, h8⟩
      rintro e W3 ⟨rfl, hB3⟩
      have hst3 := hst.below hB3
      have hoff3 : Off F w W3 := hO2.below hB3 hO2.size
      have hZ3 := hZ2.below hB3 hZ2.lt
      rw [Ed.out]
      have hend := hwk _ _ _ _ (hst3.setRow (g := w.heap.size) (fun h => h.2.1 rfl) cs)
      have hoff := hoff3.setRow (g := w.heap.size) (Nat.le_refl _) cs
      have hZ4 := hZ3.setRow cs
      clear hwk hst hst3 hO2 hoff3 hB3 hZ2 hb2
      go_wp2_with (refine wpList_store_row rfl 29 (.tmp 4) (.tmp 16) rfl w.heap.size cs rfl rfl 29 _ hZ3 (by rw [hcs]; exact dig_info) (by rw [hcs]; rfl) h1 ?_)
      refine bodyPost_ret (results_row_tmp rfl _ _ w.heap.size 29 _ (0, 0) _ rfl hZ4 Tryd.underlying29 rfl (by rw [hcs]; exact dig_info) _ rfl) rfl ?_
      exact ⟨hoff, rfl, hend⟩
theorem get_any (F : Nat → Prop) (s : Nat) (q n : Int) (m : M) (d : List UInt8) (hd : IsD d) (w : World) (hR : Rounds w) (h : Store F w s q n m) (hc : ∀ c, get m d = some c → c.length ≤ 70368744177664) :
    Calls Tryd.prog 23 #[.pointer (some ⟨s, 0, none⟩), encD d] w fun e w' => Below w.heap.size w w' ∧
      match get m d with
      | none => e = .returned (.tuple #[.slice none 0 0, I 50])
      | some c => if digest c = d then ∃ v, e = .returned (.tuple #[v, I 0]) ∧ w'.ownsRow w.heap.size 5 1 v c.length (c.map B) else e = .returned (.tuple #[.slice none 0 0, I 51]) := by
  obtain ⟨Post, hPost⟩ : ∃ Post : Ending → World → Prop, Post = fun e w' => Below w.heap.size w w' ∧
      match get m d with
      | none => e = .returned (.tuple #[.slice none 0 0, I 50])
      | some c => if digest c = d then ∃ v, e = .returned (.tuple #[v, I 0]) ∧ w'.ownsRow w.heap.size 5 1 v c.length (c.map B) else e = .returned (.tuple #[.slice none 0 0, I 51]) := ⟨_, rfl⟩
  rw [← hPost]
  have HP := Lib.hid hPost
  clear hPost
  obtain ⟨mb, l, clock, hK, hs, hH, hm⟩ := h
  obtain ⟨cs, ed, hcs, h1⟩ := encD_cells d hd
  have hD := Blk.new w 29 cs
  have c2 := (hK.alloc (.cells cs 29)).cell 2
  have hM := hH.alloc (.cells cs 29)
  have hB : Below w.heap.size w (w.alloc (.cells cs 29)) := (Below.refl _ w).alloc (Nat.le_refl _) _
  have Ed := Lib.hid ed
  have Hm := Lib.hid hm
  rw [ed]
  clear ed hH hK hm
  go_enter Tryd.func23, Tryd.ntmps23
  go_wp2_with fail
  generalize w.alloc (.cells cs 29) = W0 at hD c2 hB hM ⊢
  refine wp_region_quiet_lit (by kernel_rfl) (by kernel_rfl) ?_
  repeat (first | (first
    | (refine quiet_load_row 29 (.tmp 3) rfl rfl _ rfl hD Tryd.underlying29 rfl (by rw [hcs]; exact dig_info) ?_)
    | (refine quiet_look (.tmp 14) (.tmp 15) true rfl rfl keyD Tryd.underlying56 slice_zero hM.map d hd rfl Ed.out.symm ?_; rw [look_some_get])) | quiet_step (fail))
  refine wpQuiet_nil ?_
  intro _ hw'
  obtain ⟨nq, hw''⟩ := hw'
  subst hw''
  replace hB := Below.drewN hB nq
  replace hM := hM.drewN nq
  replace hD := hD.drewN nq
  clear c2
  generalize W0.drewN nq = W at hB hM hD ⊢
  have hRW := hR.below hB
  rcases look_rec l d with ⟨e1, e2⟩ | ⟨r, hr, hrd, e1, e2⟩
  · rw [e1, e2]
    simp only [Option.getD_none, Option.isSome_none]
    have hend : ∀ w', Below w.heap.size w w' → Post (.returned (.tuple #[.slice none 0 0, I 50])) w' := by
      intro w' hb
      rw [HP.out, ← Hm.out, e2]
      exact ⟨hb, rfl⟩
    have Hend := Lib.hid hend
    clear hend e1 e2
    go_wp2_with fail
    exact Hend.out _ hB
  · rw [e1, e2]
    simp only [Option.getD_some, Option.isSome_some]
    obtain ⟨hAv, hcapv, hrv, hcc⟩ := own_form (hM.own r hr)
    have hrl := hc r.c (by rw [← Hm.out]; exact e2)
    obtain ⟨cs2, ed2, _, _⟩ := encD_cells (digest r.c) (digest_length _)
    have heq : ∀ w : World, (Op.equalIn 10000 29 (.agg cs2) (.agg cs)).run Tryd.prog w = .ok (digest r.c == d) w := by
      intro w
      rw [← ed2, ← Ed.out]
      exact run_equalIn_bytes w 9998 29 5 32 Tryd.underlying29 Tryd.underlying5 u8_size _ _ (digest_length _) hd
    have hsum : ∀ W', Below W.heap.size W W' → Calls Tryd.prog 27 #[.slice hAv r.c.length hcapv] W' fun e w'' => e = .returned (.agg cs2) ∧ Below W'.heap.size W' w'' := by
      intro W' hb
      rw [← ed2, ← hrv]
      exact sum_own r.v r.c W' (by omega) (hRW.below hb) ((hM.below hb).own r hr)
    have hcl : ∀ W', Below W.heap.size W W' → Calls Tryd.prog 28 #[.slice hAv r.c.length hcapv] W' fun e w' => ∃ v', e = .returned v' ∧ w'.ownsRow W'.heap.size 5 1 v' r.c.length (r.c.map B) ∧ Below W'.heap.size W' w' := by
      intro W' hb
      rw [← hrv]
      exact clone_own r.v r.c W' hrl ((hM.below hb).own r hr)
    have hend : ∀ w' e, Below w.heap.size w w' → (if digest r.c = d then ∃ v, e = .returned (.tuple #[v, I 0]) ∧ w'.ownsRow w.heap.size 5 1 v r.c.length (r.c.map B) else e = .returned (.tuple #[.slice none 0 0, I 51])) → Post e w' := by
      intro w' e hb h
      rw [HP.out, ← Hm.out, e2]
      exact ⟨hb, h⟩
    have Hend := Lib.hid hend
    have Hsum := Lib.hid hsum
    have Hcl := Lib.hid hcl
    rw [hrv]
    clear hsum hcl hend ed2 hrv e1 e2
    go_wp2_with fail
    rcases hsame : (digest r.c == d) with _ | _
    · refine wp_region_quiet_below (by kernel_rfl) (by kernel_rfl) ?_
      repeat (first
        | (refine quiet_load_row_below 29 (.tmp 3) rfl (by rfl) _ rfl hD Tryd.underlying29 rfl (by rw [hcs]; exact dig_info) ?_)
        | quiet_step ((go_at_call 27; exact Calls.regrown_of (Hsum.out _ (below_regrown _ _ _)))))
      refine wpQuiet_nil ?_
      rintro W5 ⟨p5, hp5⟩
      have hB5 : Below W.heap.size W W5 := hp5 ▸ below_regrown _ _ _
      have hne : digest r.c ≠ d := by simpa using hsame
      clear hp5 heq Hsum hsame hD
      go_wp2_with fail
      refine Hend.out _ _ (hB.trans (hB5.mono hB.size)) ?_
      rw [if_neg hne]; rfl
    · refine wp_region_quiet_below (by kernel_rfl) (by kernel_rfl) ?_
      repeat (first
        | (refine quiet_load_row_below 29 (.tmp 3) rfl (by rfl) _ rfl hD Tryd.underlying29 rfl (by rw [hcs]; exact dig_info) ?_)
        | quiet_step ((go_at_call 27; exact Calls.regrown_of (Hsum.out _ (below_regrown _ _ _)))))
      refine wpQuiet_nil ?_
      rintro W5 ⟨p5, hp5⟩
      have hB5 : Below W.heap.size W W5 := hp5 ▸ below_regrown _ _ _
      have heq2 : digest r.c = d := by simpa using hsame
      have Heq := Lib.hid heq2
      clear hp5 heq Hsum hsame hD heq2
      go_wp2_with fail
      refine (Hcl.out _ hB5).mono ?_
      rintro e W6 ⟨v', rfl, hown, hB6⟩
      have hBB : Below w.heap.size w W6 := (hB.trans (hB5.mono hB.size)).trans (hB6.mono (Nat.le_trans hB.size hB5.size))
      have hown2 := own_base hown (Nat.le_trans hB.size hB5.size)
      clear hown hB6 hB5
      go_wp2_with fail
      refine Hend.out _ _ hBB ?_
      rw [if_pos Heq.out]
      exact ⟨_, rfl, hown2⟩
end Go.Proofs.YtmjaclgbagogfaaDoor
