/- BlobApart's walk. -/
import Derived.Test.YtmjaclgbagogfaaDoorItF
import Derived.Test.YtmjaclgbagogfaaDoorItN
namespace Go.Proofs.YtmjaclgbagogfaaDoor
open Go.RowKit Go.Maps Go.MapKept Go.Proofs.YtmjaclgbagogfaaDoor.Sha Go.Shelf
attribute [local go_sem] Oper.semAt_some

theorem mem_tot {m : M} {x : List UInt8 × List UInt8} (h : x ∈ m) : x.2.length ≤ tot m := by
  obtain ⟨a, b, rfl⟩ := List.append_of_mem h
  simp [tot]
  omega
theorem results_box {P : Program} {fn : Func} {p : Tmp} {ty : TypeId} (h : fn.results = #[.cell p ty]) (tmps : Array Value) (w : World) (g : Nat) (v : Value)
    (hp : tmps.getD p undef = .pointer (some ⟨g, 0, none⟩)) (hc : w.cell? ⟨g, 0, none⟩ = some v) (ha : (isAgg ty).run P w = .ok false w) : (results fn tmps).run P w = .ok v w := by
  have hp' : tmps[p]?.getD undef = .pointer (some ⟨g, 0, none⟩) := by simpa using hp
  simp [results, h, hp', asAddr, loadVar, ha, run_load, hc]
theorem bool_isAgg {w : World} : (isAgg 4).run Tryd.prog w = .ok false w := by
  unfold isAgg
  rw [Sem.run_bind, run_underlying Tryd.underlying4 w]
  rfl
theorem name_tmps {P : Program} {c : Code} {Q : Exit → Act → World → Prop} {tm : Array Value} {w : World} (h : ∀ t, t = tm → Code.wp P c Q { tmps := t, defers := [] } w) : Code.wp P c Q { tmps := tm, defers := [] } w := h _ rfl
theorem Off.of_below {n : Nat} {w w1 : World} (h : Below n w w1) : Off (fun g => n ≤ g) w w1 := ⟨h.os, h.tape, h.output, h.size, fun i hi hn => h.block i (by omega)⟩
theorem get_mem {m : M} {d c : List UInt8} (h : get m d = some c) : (d, c) ∈ m := by
  obtain ⟨y, hy, rfl⟩ := Option.map_eq_some_iff.1 h
  have h1 := List.find?_some hy
  have h2 : y.1 = d := by simpa using h1
  rw [← h2]
  exact List.mem_of_find?_eq_some hy
theorem get_of_key {m : M} {d : List UInt8} (hG : Good m) (h : d ∈ m.map (·.1)) : ∃ c, get m d = some c ∧ digest c = d ∧ c.length ≤ tot m := by
  rcases hg : get m d with _ | c
  · obtain ⟨x, hx, e⟩ := List.mem_map.1 h
    exact absurd e ((get_none m d).1 hg x hx)
  · exact ⟨c, rfl, hG.get hg, tot_get hg⟩
theorem wpInOp_row {P : Program} {F : Fence} {n : Nat} {w : World} {o : Oper} {a : Act} {K : Act → World → Prop} {Q : Exit → Act → World → Prop} {c : Prop} [Decidable c] {E : Prop} (hc : c)
    (ty : TypeId) (x : Operand) (hop : o.op = .load ty x) (g : Nat) (hx : a.eval x = .pointer (some ⟨g, 0, none⟩)) {t : TypeId} {cs : Array Value} {d : TypeDesc} (h : Blk w g t cs)
    (hu : P.underlying ty = some d) (hd : (match d with | .struct _ | .array _ _ => true | _ => false) = true) (hi : (P.info? ty).map (·.size) = some cs.size) (hK : K (a.put o.dst (.agg cs)) w) : if c then o.wpIn F n P a w K Q else E := by
  rw [if_pos hc]
  unfold Oper.wpIn
  refine ⟨by simp [Oper.about, hop], ?_⟩
  rw [Oper.semAt_plain F _ _ (by rw [hop]; intro c hc'; cases hc')]
  have hrun := run_loadVar_row (P := P) w g t ty cs _ d h hu hd hi
  simp [execOp, hop, hx, Instr.loadAt, Instr.sureAddr, hrun, Result.andThen]
  exact hK
theorem Store.nodup {F : Nat → Prop} {w : World} {s : Nat} {q n : Int} {m : M} (h : Store F w s q n m) : (m.map (·.1)).Nodup := by
  obtain ⟨mb, l, clock, _, _, hH, rfl⟩ := h
  have := hH.map.keys
  rw [List.map_map] at this ⊢
  exact this
theorem tot_drop {m : M} (hn : (m.map (·.1)).Nodup) (d : List UInt8) : tot (drop m d) + ((get m d).getD []).length = tot m := by
  induction m with
  | nil => rfl
  | cons x m ih =>
    simp only [List.map_cons, List.nodup_cons] at hn
    by_cases e : x.1 = d
    · have e1 : get (x :: m) d = some x.2 := by simp [get, e]
      have e2 : drop (x :: m) d = drop m d := by simp [drop, e]
      have e3 : drop m d = m := drop_none ((get_none m d).2 fun y hy h => hn.1 (by rw [e, ← h]; exact List.mem_map_of_mem hy))
      rw [e1, e2, e3]
      simp only [tot, List.map_cons, List.sum_cons, Option.getD_some]
      omega
    · have e1 : get (x :: m) d = get m d := by simp [get, e]
      have e2 : drop (x :: m) d = x :: drop m d := by simp [drop, e]
      rw [e1, e2]
      have := ih hn.2
      simp only [tot, List.map_cons, List.sum_cons] at this ⊢
      omega
theorem spoilTo_same (m : M) (d : List UInt8) (k : Int) (t : UInt8) : (spoilTo m d k t).map (fun x => (x.1, x.2.length)) = m.map (fun x => (x.1, x.2.length)) := by
  unfold spoilTo
  split
  · rfl
  · split
    · rfl
    · rw [List.map_map]
      refine List.map_congr_left fun x _ => ?_
      simp only [Function.comp]
      split <;> simp
theorem spoilTo_tot (m : M) (d : List UInt8) (k : Int) (t : UInt8) : tot (spoilTo m d k t) = tot m := by
  have := congrArg (fun l => (l.map (·.2)).sum) (spoilTo_same m d k t)
  simp only [List.map_map] at this
  exact this
theorem spoilTo_keys {m : M} {d : List UInt8} {k : Int} {t : UInt8} {x : List UInt8 × List UInt8} (h : x ∈ spoilTo m d k t) : ∃ y ∈ m, y.1 = x.1 := by
  have h1 : x.1 ∈ ((spoilTo m d k t).map (fun x => (x.1, x.2.length))).map (·.1) := by
    rw [List.map_map]; exact List.mem_map_of_mem (f := (fun x => x.1) ∘ fun x : List UInt8 × List UInt8 => (x.1, x.2.length)) h
  rw [spoilTo_same, List.map_map] at h1
  obtain ⟨y, hy, e⟩ := List.mem_map.1 h1
  exact ⟨y, hy, e⟩
/-- What lies on to the end of BlobApart. -/
structure Kept (Fs : Nat → Prop) (s bR bC D : Nat) (n : Int) (w W : World) : Prop where
  st : Store Fs W s 1073741824 (tot ([] : M)) []
  rb : Blk W bR 4 #[.bool false]
  ct : Boxed W bC 3 (I n)
  df : W.heap[D]? = some (.deferred (some []))
  bl : Below bR w W
theorem Kept.below {Fs : Nat → Prop} {s bR bC D : Nat} {n : Int} {w W W' : World} (h : Kept Fs s bR bC D n w W) (hb : Below W.heap.size W W') : Kept Fs s bR bC D n w W' :=
  ⟨h.st.below hb, h.rb.below hb h.rb.lt, h.ct.kept (only_of_below hb none) (by simp), (hb.block D (Array.getElem?_eq_some_iff.1 h.df).1).trans h.df, h.bl.trans (hb.mono (Nat.le_of_lt h.rb.lt))⟩
set_option maxRecDepth 100000 in
set_option maxHeartbeats 4000000 in
theorem apart_any (A : Option Addr) (cap : Nat) (vs : List (Value × List UInt8)) (mA : Option Addr) (mcap : Nat) (more : List UInt8) (w : World) (hR : Rounds w) (hV : Ins (fun g => w.heap.size ≤ g) w A vs) (hvl : vs.length ≤ cap) (hvb : vs.length ≤ 70368744177664)
    (hbig : lens (vs.map (·.2)) + more.length ≤ 70368744177664) (hMo : Bs (fun g => w.heap.size ≤ g) w (.slice mA more.length mcap) more) :
    Calls Tryd.prog 5 #[.slice A vs.length cap, .slice mA more.length mcap] w fun e w' => e = .returned (.bool true) ∧ Below w.heap.size w w' := by
  refine (callsIn_wide (n := 8)).1 ?_
  refine callsIn_of_wp_marks Tryd.func5 rfl trivial ?_ rfl
  simp only [Tryd.ntmps5, List.size_toArray, List.length_cons, List.length_nil, Nat.reduceAdd, Nat.reduceSub, Array.replicate_succ, Array.replicate_zero, List.push_toArray, List.append_toArray, List.nil_append, List.cons_append]
  rw [wpIn_wide]
  have hRb := Blk.new w 4 #[.bool false]
  have hB0 : Below w.heap.size w (w.alloc (.cells #[.bool false] 4)) := (Below.refl _ w).alloc (Nat.le_refl _) _
  have hW0 : (w.alloc (.cells #[.bool false] 4)).heap.size = w.heap.size + 1 := by simp
  go_wp2_with fail
  generalize w.alloc (.cells #[.bool false] 4) = W0 at hRb hB0 hW0 ⊢
  refine (awake_any W0 (hR.below hB0)).mono ?_
  rintro e W1 ⟨rfl, hB1⟩
  replace hRb := hRb.below hB1 hRb.lt
  replace hB1 := hB0.trans (hB1.mono hB0.size)
  have c0 := hRb.cell 0
  have f0 := hRb.frozen 0
  have hW1 := hRb.lt
  clear hB0
  by_cases h60 : 60 < vs.length
  · go_wp2_with fail
    have hRe := hRb.set_ 0 (.bool true)
    exact ⟨_, results_box rfl _ _ w.heap.size _ rfl (hRe.cell 0) bool_isAgg, rfl, hB1.setCell (Nat.le_refl _) _⟩
  · go_wp2_with fail
    refine (new_any (fun g => w.heap.size + 1 ≤ g) 1073741824 W1 (fun i hi => by omega)).mono ?_
    rintro e W2 ⟨s, rfl, hst, hB2⟩
    rw [show max (1073741824 : Int) 0 = 1073741824 from rfl] at hst
    have hRb2 := hRb.below hB2 hRb.lt
    replace hB2 := hB1.trans (hB2.mono hB1.size)
    clear hB1 hRb c0 f0
    go_wp2_with fail
    go_loopw [6] (fun v6 wr => ∃ (k : Nat) (m : M), v6 = I k ∧ k ≤ vs.length ∧ m.length ≤ k ∧ Good m ∧ (∀ x ∈ m, ∃ y ∈ vs.take k, digest y.2 = x.1) ∧ Store (fun g => w.heap.size + 1 ≤ g) wr s 1073741824 (tot m) m ∧ tot m ≤ lens ((vs.map (·.2)).take k) ∧ (tot m : Int) ≤ 1073741824 ∧ Below w.heap.size w wr ∧ Blk wr w.heap.size 4 #[.bool false])
      (fun v6 _ => vs.length - match v6 with | .int _ k => k.toNat | _ => 0)
    case atStart => exact ⟨0, [], rfl, by omega, by simp, (fun _ h => by cases h), (fun _ h => by cases h), hst, by simp [tot], by simp [tot], hB2, hRb2⟩
    case round =>
      clear hst hB2 hRb2
      obtain ⟨k, m, rfl, hk, hmk, hG, hin, hst, htl, htq, hB, hRb⟩ := hrel
      have HV := Lib.hid hV
      have HM := Lib.hid hMo
      have Hin := Lib.hid hin
      clear hV hMo hin
      by_cases hkl : k < vs.length
      · have hvs : vs ≠ [] := by rintro rfl; simp at hkl
        obtain ⟨ab, ao, rfl, hab, haF, hcell⟩ := HV.out hvs
        obtain ⟨hv0, hbs⟩ := hcell k vs[k] (List.getElem?_eq_getElem hkl)
        obtain ⟨x, hx⟩ : ∃ x, x = vs[k].2 := ⟨_, rfl⟩
        rw [← hx] at hbs
        have hlk := lens_take (vs.map (·.2)) k (by simpa using hkl)
        rw [List.getElem_map, ← hx] at hlk
        have hlall := lens_le (vs.map (·.2)) (k + 1)
        obtain ⟨vA, vcap, hve, hvc, hvN, hvI⟩ := hbs.in_
        have c1 : wr.cell? ⟨ab, ao + k, none⟩ = some (.slice vA x.length vcap) := by
          rw [← hve, ← hv0]
          exact hB.cell (p := ⟨ab, ao + k, none⟩) hab
        rw [hve] at hbs
        have htx : tot m + x.length ≤ 1125899906842624 := by omega
        have Hlk := Lib.hid hlk
        have Hx := Lib.hid hx
        have hRW := hR.below hB
        have hR0 := hR.1
        have hwr := hB.size
        have hbw := hbs.off (Off.below (Off.refl (fun _ => False) w) hB (Nat.le_refl _)) (fun _ _ h => h.elim)
        have hput := put_any (fun g => w.heap.size + 1 ≤ g) s 1073741824 m _ x wr (fun i hi => by have := hRb.lt; omega) hRW (by omega) (hbw.weak (fun _ _ h => by omega)) hst (by omega) (by omega) htx
        have Hput := Lib.hid hput
        clear hlk hx hcell hv0 hve hbs hvN hvs hbw hput hRW
        have hk1 : IntKind.i64.wrap ((k : Int) + 1) = (k : Int) + 1 := IntWalk.i64_in _ (by omega)
        go_wp2_with (go_at_call 11; refine Hput.out.mono ?_; rintro e W3 ⟨hO3, rfl, hst3⟩)
        have hB3 : Below w.heap.size w W3 := ⟨hO3.os.trans hB.os, hO3.tape.trans hB.tape, hO3.output.trans hB.output, Nat.le_trans hB.size hO3.size, fun i hi => (hO3.block i (by omega) (by omega)).trans (hB.block i hi)⟩
        have hRb3 := hRb.off hO3 (by omega)
        have hinx : ∀ m', (m' = m ∨ m' = m ++ [(digest x, x)]) → ∀ z ∈ m', ∃ y ∈ vs.take (k + 1), digest y.2 = z.1 := by
          intro m' hm' z hz
          have hold : ∀ z ∈ m, ∃ y ∈ vs.take (k + 1), digest y.2 = z.1 := fun z hz => by
            obtain ⟨y, hy, e⟩ := Hin.out z hz
            exact ⟨y, by rw [List.take_succ_eq_append_getElem hkl]; exact List.mem_append.2 (.inl hy), e⟩
          rcases hm' with rfl | rfl
          · exact hold z hz
          · rcases List.mem_append.1 hz with hz | hz
            · exact hold z hz
            · rw [List.mem_singleton.1 hz]
              exact ⟨vs[k], by rw [List.take_succ_eq_append_getElem hkl]; exact List.mem_append.2 (.inr (by simp)), by rw [← Hx.out]⟩
        have hlk := Hlk.out
        rcases put_cases m 1073741824 x hG with ⟨_, _, ht⟩ | ⟨_, _, hct⟩ | ⟨_, _, hfit, _, ht⟩ | ⟨_, _, _, _, ht⟩
        · rw [ht] at hst3
          exact ⟨⟨k + 1, m, by simp, by omega, by omega, hG, hinx _ (.inl rfl), hst3, by omega, htq, hB3, hRb3⟩, by simp; omega⟩
        · rw [(hct (by omega)).2] at hst3
          exact ⟨⟨k + 1, m, by simp, by omega, by omega, hG, hinx _ (.inl rfl), hst3, by omega, htq, hB3, hRb3⟩, by simp; omega⟩
        · rw [ht] at hst3
          have htm : tot (m ++ [(digest x, x)]) = tot m + x.length := by simp [tot]
          exact ⟨⟨k + 1, _, by simp, by omega, by simp; omega, hG.snoc x, hinx _ (.inr rfl), hst3, by rw [htm]; omega, by rw [htm]; omega, hB3, hRb3⟩, by simp; omega⟩
        · rw [ht] at hst3
          exact ⟨⟨k + 1, m, by simp, by omega, by omega, hG, hinx _ (.inl rfl), hst3, by omega, htq, hB3, hRb3⟩, by simp; omega⟩
      · obtain rfl : k = vs.length := by omega
        go_wp2_with (go_at_call 20; refine (count_at hst).mono ?_; rintro e w' ⟨rfl, rfl⟩)
        refine (clone_store _ s 1073741824 (tot m) m wr (by omega) hst (fun x hx => by have := mem_tot hx; omega)).mono ?_
        rintro e W3 ⟨c, m', rfl, hpm, hcst, hB3⟩
        have hsz3 := hB3.size
        have hwr := hRb.lt
        have hs3 := (hst.weak (G := fun g => w.heap.size + 1 ≤ g ∧ g < wr.heap.size) (fun i hi hf => ⟨hf, hi⟩)).below hB3
        have hc3 := hcst.weak (G := fun g => wr.heap.size ≤ g ∧ g < W3.heap.size) (fun i hi hf => ⟨hf, hi⟩)
        have hRb3 := hRb.below hB3 hRb.lt
        have hBw3 := hB.trans (hB3.mono (Nat.le_of_lt hwr))
        clear hst hcst hRb hB hB3
        go_wp2_with fail
        have hb8 := Blk.new W3 24 #[.pointer (some ⟨c, 0, none⟩)]
        have hB4 : Below W3.heap.size W3 (W3.alloc (.cells #[.pointer (some ⟨c, 0, none⟩)] 24)) := (Below.refl _ _).alloc (Nat.le_refl _) _
        have hz4 : (W3.alloc (.cells #[.pointer (some ⟨c, 0, none⟩)] 24)).heap.size = W3.heap.size + 1 := by simp
        generalize W3.alloc (.cells #[.pointer (some ⟨c, 0, none⟩)] 24) = W4 at hb8 hB4 hz4 ⊢
        have hs4 := hs3.below hB4
        have hc4 := hc3.below hB4
        have hRb4 := hRb3.below hB4 hRb3.lt
        have hBw4 := hBw3.trans (hB4.mono (by omega))
        clear hs3 hc3 hRb3 hBw3 hB4
        have hml : m.length ≤ 1099511627776 := by omega
        refine (all_any _ s 1073741824 (tot m) m W4 hs4 hml).mono ?_
        rintro e W5 ⟨bx, sv, ys, rfl, hbx1, hbx2, hbxc, hD, hlo, hyp, _, hB5⟩
        have hs5 := hs4.below hB5
        have hc5 := hc4.below hB5
        have hRb5 := hRb4.below hB5 hRb4.lt
        have hb85 := hb8.below hB5 hb8.lt
        have hBw5 := hBw4.trans (hB5.mono (by omega))
        have hsz5 := hB5.size
        clear hs4 hc4 hRb4 hb8 hBw4 hB5
        go_wp2_with fail
        have HC := Lib.hid hc5
        have HRb := Lib.hid hRb5
        have Hb8 := Lib.hid hb85
        have HD := Lib.hid hD
        have HBX := Lib.hid hbxc
        have HLO := Lib.hid hlo
        have HYP := Lib.hid hyp
        have HPM := Lib.hid hpm
        have HG := Lib.hid hG
        have hin5 : ∀ x ∈ m, ∃ y ∈ vs.drop 0, digest y.2 = x.1 := fun x hx => by
          obtain ⟨y, hy, e⟩ := Hin.out x hx
          exact ⟨y, by simpa using List.mem_of_mem_take hy, e⟩
        have Hin5 := Lib.hid hin5
        have HRR := Lib.hid (hR.below hBw5)
        clear hc5 hRb5 hb85 hD hbxc hlo hyp hpm hG Hin hin5 htl hml
        obtain ⟨wa, hwa⟩ : ∃ wa, wa = wr := ⟨_, rfl⟩
        subst hwa
        go_loopw [10] (fun v10 wr2 => ∃ (k : Nat) (ms : M), v10 = I k ∧ k ≤ vs.length ∧ tot ms ≤ tot m ∧ (∀ x ∈ ms, ∃ y ∈ vs.drop k, digest y.2 = x.1) ∧ Store (fun g => w.heap.size + 1 ≤ g ∧ g < wa.heap.size) wr2 s 1073741824 (tot ms) ms ∧ Off (fun g => w.heap.size + 1 ≤ g ∧ g < wa.heap.size) W5 wr2)
          (fun v10 _ => vs.length - match v10 with | .int _ k => k.toNat | _ => 0)
        case atStart => exact ⟨0, m, rfl, by omega, Nat.le_refl _, Hin5.out, hs5, Off.refl _ _⟩
        case round =>
          clear hs5
          obtain ⟨k, ms, rfl, hk2, htm, hin2, hs, hO⟩ := hrel
          have Hin2 := Lib.hid hin2
          clear hin2
          by_cases hkl2 : k < vs.length
          · have hvs : vs ≠ [] := by rintro rfl; simp at hkl2
            obtain ⟨ab, ao, rfl, hab, haF, hcell⟩ := HV.out hvs
            obtain ⟨hv0, hbs⟩ := hcell k vs[k] (List.getElem?_eq_getElem hkl2)
            obtain ⟨x, hx⟩ : ∃ x, x = vs[k].2 := ⟨_, rfl⟩
            rw [← hx] at hbs
            have hlk := lens_take (vs.map (·.2)) k (by simpa using hkl2)
            rw [List.getElem_map, ← hx] at hlk
            have hlall := lens_le (vs.map (·.2)) (k + 1)
            have hxl : x.length ≤ 70368744177664 := by omega
            clear hlk hlall
            have hos := hO.size
            have hB : Below w.heap.size w wr := ⟨hO.os.trans hBw5.os, hO.tape.trans hBw5.tape, hO.output.trans hBw5.output, Nat.le_trans hBw5.size hO.size, fun i hi => (hO.block i (by have := hBw5.size; omega) (by omega)).trans (hBw5.block i hi)⟩
            obtain ⟨vA, vcap, hve, hvc, hvN, hvI⟩ := hbs.in_
            have c1 : wr.cell? ⟨ab, ao + k, none⟩ = some (.slice vA x.length vcap) := by
              rw [← hve, ← hv0]
              exact hB.cell (p := ⟨ab, ao + k, none⟩) hab
            have HVI := Lib.hid (hvI.below hB)
            have Hx := Lib.hid hx
            have HB := Lib.hid hB
            clear hx hcell hv0 hve hbs hvN hvs hvI hB
            have hk1 : IntKind.i64.wrap ((k : Int) + 1) = (k : Int) + 1 := IntWalk.i64_in _ (by omega)
            go_wp2_with fail
            refine (rsum_any vA vcap x wr hxl HVI.out).mono ?_
            rintro e W6 ⟨rfl, hB6⟩
            have hdl := digest_length x
            obtain ⟨cs, ed, hcs, h1⟩ := encD_cells (digest x) hdl
            have Ed := Lib.hid ed
            rw [ed]
            clear ed c1
            have hs6 := hs.below hB6
            have hO6 := hO.below hB6 hos
            have hw6 := hB6.size
            have Hdl := Lib.hid hdl
            have hlen : ∀ m' : M, tot m' ≤ tot m → ∀ cc, get m' (digest x) = some cc → cc.length ≤ tot m := fun m' h cc hg => Nat.le_trans (tot_get hg) h
            have Hlen := Lib.hid hlen
            clear hs hO hB6 hdl hlen
            go_wp2_with (first
              | (refine wpList_store_row rfl 29 (.tmp 11) (.tmp 55) rfl W6.heap.size cs rfl rfl 29 _ (Blk.new W6 29 (Array.replicate 32 (B 0))) (by rw [hcs]; exact dig_info) (by rw [hcs]; rfl) h1 ?_
                 have hbf := box_facts W6 cs
                 change wpList _ _ _ _ _ ((W6.alloc (.cells (Array.replicate 32 (B 0)) 29)).setRow W6.heap.size cs)
                 generalize (W6.alloc (.cells (Array.replicate 32 (B 0)) 29)).setRow W6.heap.size cs = W7 at hbf ⊢
                 obtain ⟨hD7, hB7⟩ := hbf
                 have hs7 := hs6.below hB7
                 have hO7 := hO6.below hB7 hO6.size
                 have hsp := spoil_any _ s 1073741824 (tot ms) ms (digest x) Hdl.out 0 1 W7 hs7 (fun cc hg => by have := Hlen.out ms htm cc hg; omega)
                 rw [Ed.out] at hsp
                 have Hsp := Lib.hid hsp
                 clear hsp hs6 hO6 hs7)
              | (refine wpList_load_row rfl 29 (.tmp 11) rfl W6.heap.size rfl 29 cs (0, 0) _ hD7 Tryd.underlying29 rfl (by rw [hcs]; exact dig_info) ?_))
            refine Hsp.out.mono ?_
            rintro e W8 ⟨rfl, hs8, hO8⟩
            have hz7 := hB7.size
            have hw7 := hO7.size
            have hD8 := hD7.off hO8 (by have := hz4; omega)
            have hO8' := hO7.trans hO8 (fun _ _ h => h)
            have htsp : tot (spoilTo ms (digest x) 0 1) = tot ms := spoilTo_tot _ _ _ _
            have hdr := drop_any _ s 1073741824 (tot ms) (spoilTo ms (digest x) 0 1) (digest x) Hdl.out W8 hs8 (by omega) (by omega) (fun cc hg => by
              have := tot_get hg
              omega)
            rw [Ed.out] at hdr
            have htd := tot_drop hs8.nodup (digest x)
            rw [htsp] at htd
            have Hdr := Lib.hid hdr
            have Htd := Lib.hid htd
            clear hdr htd hs8 hO8 hO7 Hsp hD7 htsp
            go_wp2_with (first
              | (refine wpList_load_row rfl 29 (.tmp 11) rfl W6.heap.size rfl 29 cs (0, 0) _ hD8 Tryd.underlying29 rfl (by rw [hcs]; exact dig_info) ?_))
            refine Hdr.out.mono ?_
            rintro e W9 ⟨rfl, hs9, hO9⟩
            go_wp2_with fail
            have htd := Htd.out
            rw [show ((tot ms : Int) - ((get (spoilTo ms (digest x) 0 1) (digest x)).getD []).length) = tot (drop (spoilTo ms (digest x) 0 1) (digest x)) by omega] at hs9
            refine ⟨⟨k + 1, _, by simp, by omega, by omega, fun z hz => ?_, hs9, hO8'.trans hO9 (fun _ _ h => h)⟩, by simp; omega⟩
            obtain ⟨hz1, hz2⟩ := List.mem_filter.1 hz
            obtain ⟨y0, hy0, e0⟩ := spoilTo_keys hz1
            obtain ⟨y, hy, e1⟩ := Hin2.out y0 hy0
            rw [List.drop_eq_getElem_cons hkl2] at hy
            rcases List.mem_cons.1 hy with rfl | hy
            · have hz2 : z.1 ≠ digest x := by simpa using hz2
              exact absurd (by rw [← e0, ← e1, Hx.out]) hz2
            · exact ⟨y, hy, by rw [e1, e0]⟩
          · obtain rfl : k = vs.length := by omega
            have hms : ms = [] := by
              rcases ms with _ | ⟨z, ms⟩
              · rfl
              · obtain ⟨y, hy, _⟩ := Hin2.out z (List.mem_cons_self ..)
                simp at hy
            subst hms
            clear Hin2 hkl2 htm
            go_wp2_with fail
            refine name_tmps fun tm htm => ?_
            have hbw : bx < wr.heap.size := Nat.lt_of_lt_of_le hbx2 hO.size
            have bX0 := Boxed.new wr 3 (I 0)
            have hBl : Below wr.heap.size wr (wr.alloc (.cells #[I 0] 3)) := (Below.refl _ wr).alloc (Nat.le_refl _) _
            have hzl : (wr.alloc (.cells #[I 0] 3)).heap.size = wr.heap.size + 1 := by simp
            have hbxl : (wr.alloc (.cells #[I 0] 3)).cell? ⟨bx, 0, none⟩ = some sv := (hBl.cell (p := ⟨bx, 0, none⟩) hbw).trans ((hO.cell (p := ⟨bx, 0, none⟩) hbx2 (by show ¬ (_ ∧ bx < _); omega)).trans HBX.out)
            have hDl : Digs wr.heap.size (wr.alloc (.cells #[I 0] 3)) sv (ys.attach.map (·.1)) := by
              have hz5 := hO.size
              rw [List.attach_map_subtype_val]
              rcases HD.out with hd | ⟨b, cp, d1, d2, d3, d4⟩
              · exact .inl hd
              · have hb4 := HLO.out b (by rw [d1]; rfl)
                refine .inr ⟨b, cp, d1, d2, by omega, fun k hk j u hu => ?_⟩
                exact (hBl.cell (p := ⟨b, k * 32 + j, none⟩) (by show b < _; omega)).trans ((hO.cell (p := ⟨b, k * 32 + j, none⟩) d3 (by show ¬ (_ ∧ b < _); omega)).trans (d4 k hk j u hu))
            have hcl : Store (fun g => wa.heap.size ≤ g ∧ g < W3.heap.size) (wr.alloc (.cells #[I 0] 3)) c 1073741824 (tot m) m' := (HC.out.off hO (fun _ _ _ => by omega)).below hBl
            have hb8l : Blk (wr.alloc (.cells #[I 0] 3)) W3.heap.size 24 #[.pointer (some ⟨c, 0, none⟩)] := (Hb8.out.off hO (by omega)).below hBl (by have := hO.size; omega)
            have hRl : Rounds (wr.alloc (.cells #[I 0] 3)) := (HRR.out.off hO (by have := hR.1; omega)).below hBl
            have hz5 := hO.size
            change Code.wp _ _ _ _ (wr.alloc (.cells #[I 0] 3))
            generalize wr.alloc (.cells #[I 0] 3) = Wl at bX0 hBl hzl hbxl hDl hcl hb8l hRl ⊢
            have HHs := Lib.hid (hs.below (hBl.mono (Nat.le_refl _)))
            have HO := Lib.hid hO
            have Htm := Lib.hid htm
            have HBl := Lib.hid hBl
            clear HD HBX HLO HC Hb8 HRR hs hO hk2 hkl hBl
            refine (wpIn_wide (n := 8)).1 ?_
            refine wpIn_rangeFunc_ownH (F := Fence.wide) (n := 8) rfl (by omega) (gf := 49) (lb := #[.pointer (some ⟨bx, 0, none⟩)]) (by subst htm; rfl) trivial (enters_of Tryd.func49 (by kernel_rfl) rfl)
              (values_stops (fun x : {d : D32 // d ∈ ys} => x.1) Fence.wide 7 trivial rfl (by omega) bx wr.heap.size sv ys.attach (by rw [List.length_attach]; have := HYP.out.length_eq; simp at this; omega) Wl (by omega) (by omega) hbxl hDl)
              belowK_t (belowK_b (by omega)) (Below.refl _ Wl) (fun _ => rfl)
              (fun pre W => Boxed W wr.heap.size 3 (I pre.length) ∧ Below wr.heap.size Wl W)
              (fun _ _ _ => False)
              (OwnFrom.and (Go.Own.from (boxed_own wr.heap.size 3 (fun pre : List {d : D32 // d ∈ ys} => I pre.length)) _) (ownFrom_below (by omega) (by omega)))
              (fun _ _ _ _ _ hs _ _ => hs)
              ⟨bX0, Below.refl _ _⟩
              (fun x a' W => ∃ Bx, wr.heap.size < Bx ∧ Blk W Bx 29 (x.1.1.map B).toArray ∧ a' = { tmps := (tm.setIfInBounds 63 (encD x.1.1)).setIfInBounds 13 (.pointer (some ⟨Bx, 0, none⟩)), defers := [] })
              (fun x a' _ X Y row hs hg hr => by
                obtain ⟨Bx, h1, h2, h3⟩ := hs
                exact ⟨Bx, h1, blk_own Bx _ _ () X Y row h2 hg (fun r e => (hr r e).2), h3⟩)
              ?assign ?body ?done ?stop
            case assign =>
              rintro l pre x W K ⟨bX, hB⟩ hK
              have HK := Lib.hid hK
              have hcs : (x.1.1.map B).toArray.size = 32 := by simp [x.1.2]
              have Hcs := Lib.hid hcs
              have Hone := Lib.hid (dig_one x.1.1)
              clear hK hcs
              rw [htm]
              gi_wp2_with (first
                | (refine wpListIn_setrow rfl 29 (.tmp 13) (.tmp 63) rfl W.heap.size (x.1.1.map B).toArray rfl rfl (Blk.new W 29 (Array.replicate 32 (B 0))) (by rw [Hcs.out]; exact dig_info) (by rw [Hcs.out]; rfl) Hone.out ?_)
                | gi_in)
              have hbf := box_facts W (x.1.1.map B).toArray
              change K _ ((W.alloc (.cells (Array.replicate 32 (B 0)) 29)).setRow W.heap.size (x.1.1.map B).toArray)
              generalize (W.alloc (.cells (Array.replicate 32 (B 0)) 29)).setRow W.heap.size (x.1.1.map B).toArray = W3 at hbf ⊢
              obtain ⟨hD3, hB3⟩ := hbf
              have hzW := hB.size
              exact HK.out _ _ (KeepsFrom.of_grownBy (only_of_below hB3 none) (fun j e => by cases e)) (hB3.mono (by omega))
                ⟨bX.kept (only_of_below hB3 none) (by simp), hB.trans (hB3.mono (by omega))⟩ ⟨W.heap.size, bX.lt, hD3, by subst htm; rfl⟩
            case body =>
              rintro l pre x a' W hl ⟨r, hr⟩ ⟨bX, hB⟩ ⟨Bx, hBx, hX, rfl⟩ hlt
              have hOW := Off.of_below hB
              have hwW := hB.size
              have hcW := hcl.off hOW (fun _ _ h => by omega)
              have hb8W := hb8l.off hOW (by omega)
              have hRW := hRl.off hOW (by have := hR.1; omega)
              have hGm : Good m' := fun z hz => HG.out z (HPM.out.mem_iff.1 hz)
              obtain ⟨cc, hcc, hdc, hlc⟩ := get_of_key (d := x.1.1) hGm ((HPM.out.map (·.1)).mem_iff.2 (HYP.out.mem_iff.1 (List.mem_map_of_mem x.2)))
              have hlc2 : cc.length ≤ tot m := by
                have := mem_tot (HPM.out.mem_iff.1 (get_mem hcc))
                exact this
              have hgt := get_any _ c 1073741824 (tot m) m' x.1.1 x.1.2 W hRW hcW (fun cc' h => by rw [hcc] at h; injection h with h; subst h; omega)
              rw [hcc] at hgt
              dsimp only at hgt
              simp only [if_pos hdc] at hgt
              have Hgt := Lib.hid hgt
              have hcs : (x.1.1.map B).toArray.size = 32 := by simp [x.1.2]
              have Hcs := Lib.hid hcs
              have Hdc := Lib.hid hdc
              have c8 := hb8W.cell 0
              have HhB := Lib.hid hB
              have HhR := Lib.hid hRW
              rw [htm]
              clear htm HHs HO HRb hgt hcs hdc hcW hb8W hOW hcc hGm hcl hb8l hRl hDl hbxl bX0 hB
              gi_wp2_with (first
                | (refine wpListIn_row rfl 29 (.tmp 13) rfl Bx rfl hX Tryd.underlying29 rfl (by rw [Hcs.out]; exact dig_info) ?_)
                | (refine ⟨trivial, ?_⟩
                   refine (CallsIn.inRound l (callsIn_wide.2 Hgt.out)).mono ?_
                   rintro e W1 ⟨hB1, v, rfl, hown⟩)
                | gi_in)
              obtain ⟨vA, vcap, rfl, hv1, hv2, hvI⟩ := own_in (own_base hown (Nat.zero_le _))
              have hsum := fun W' (hb : Below W1.heap.size W1 W') => rsum_any vA vcap cc W' (by omega) (hvI.below hb)
              rw [Hdc.out, show encD x.1.1 = .agg (x.1.1.map B).toArray from rfl] at hsum
              have Hsum := Lib.hid hsum
              have hne : ∀ w, (binOp .neq 29 (.agg (x.1.1.map B).toArray) (.agg (x.1.1.map B).toArray)).run Tryd.prog w = .ok (.bool false) w := fun w => by
                have := encD_ne x.1.1 x.1.1 w x.1.2 x.1.2
                simpa [encD] using this
              have hX1 : Blk W1.drew Bx 29 (x.1.1.map B).toArray := (hX.below hB1 hX.lt).drew
              have bX1 := bX.kept (only_of_below hB1 none) (by simp)
              have hmix : Tryd.prog.follows .mixedOrders = true := by kernel_rfl
              clear hsum c8 hX hown hv1 hv2 hvI
              refine wpIn_region_any hmix ?_
              change wpAnyIn _ _ _ _ _ _ _ _ _ (World.drew _)
              have hend : ∀ W2, Below W1.drew.heap.size W1.drew W2 → KeepsFrom Wl.heap.size W (W2.setCell ⟨wr.heap.size, 0, none⟩ (I ((pre.length : Int) + 1))) ∧ Below wr.heap.size W (W2.setCell ⟨wr.heap.size, 0, none⟩ (I ((pre.length : Int) + 1))) ∧
                  Boxed (W2.setCell ⟨wr.heap.size, 0, none⟩ (I ((pre.length : Int) + 1))) wr.heap.size 3 (I (pre ++ [x]).length) ∧ Below wr.heap.size Wl (W2.setCell ⟨wr.heap.size, 0, none⟩ (I ((pre.length : Int) + 1))) := by
                intro W2 hB2
                have hB12 : Below W1.heap.size W1 W2 := (Below.drew (Below.refl _ _)).trans hB2
                have hz1 := hB1.size
                have hK1 : Below wr.heap.size W W2 := (hB1.mono (by omega)).trans (hB12.mono (by omega))
                have hKp : Below wr.heap.size W (W2.setCell ⟨wr.heap.size, 0, none⟩ (I ((pre.length : Int) + 1))) := hK1.setCell (Nat.le_refl _) _
                refine ⟨((KeepsFrom.of_grownBy (only_of_below hB1 none) (fun j e => by cases e)).trans (KeepsFrom.of_grownBy (only_of_below hB12 none) (fun j e => by cases e))).trans ((KeepsOthers.setCell _ _ _).from _), hKp, ?_, HhB.out.trans hKp⟩
                rw [show ((pre ++ [x]).length : Int) = (pre.length : Int) + 1 by simp]
                exact (bX1.kept (only_of_below hB12 none) (by simp)).set _
              have Hend := Lib.hid hend
              clear hend
              refine wpAnyIn_ready (rs := [0]) (by kernel_rfl) (by simp) (AllReadyIn.cons rfl (fun K hK => ?_) AllReadyIn.nil)
              go_simp
              refine hK _ _ ?_; clear hK K
              refine wpAnyIn_ready (rs := [1]) (by kernel_rfl) (by simp) (AllReadyIn.cons rfl (fun K hK => ?_) AllReadyIn.nil)
              go_simp
              refine hK _ _ ?_; clear hK K
              refine wpAnyIn_ready (rs := [2]) (by kernel_rfl) (by simp) (AllReadyIn.cons rfl (fun K hK => ?_) AllReadyIn.nil)
              go_simp
              refine hK _ _ ?_; clear hK K
              refine wpAnyIn_ready (rs := [3, 5]) (by kernel_rfl) (by simp) (AllReadyIn.cons rfl (fun K hK => ?_) (AllReadyIn.cons rfl (fun K hK => ?_) AllReadyIn.nil))
              · go_simp
                refine hK _ _ ?_; clear hK K
                refine wpAnyIn_ready (rs := [4, 5]) (by kernel_rfl) (by simp) (AllReadyIn.cons rfl (fun K hK => ?_) (AllReadyIn.cons rfl (fun K hK => ?_) AllReadyIn.nil))
                · go_simp
                  refine ⟨trivial, ?_⟩
                  refine (CallsIn.inRound l (callsIn_wide.2 (Hsum.out W1.drew (Below.drew (Below.refl _ _))))).mono ?_
                  rintro e W2 ⟨rfl, hB2⟩
                  refine hK _ _ ?_; clear hK K
                  have hX2 := hX1.below hB2 hX1.lt
                  refine wpAnyIn_ready (rs := [5]) (by kernel_rfl) (by simp) (AllReadyIn.cons rfl (fun K hK => ?_) AllReadyIn.nil)
                  refine wpInOp_row (by rfl) 29 (.tmp 13) rfl Bx rfl hX2 Tryd.underlying29 rfl (by rw [Hcs.out]; exact dig_info) ?_
                  refine hK _ _ ?_; clear hK K
                  simp only [Act.put, List.setIfInBounds_toArray]
                  refine wpAnyIn_ready (rs := [6]) (by kernel_rfl) (by simp) (AllReadyIn.cons rfl (fun K hK => ?_) AllReadyIn.nil)
                  go_simp
                  refine hK _ _ ?_; clear hK K
                  refine wpAnyIn_ready (rs := [7]) (by kernel_rfl) (by simp) (AllReadyIn.cons rfl (fun K hK => ?_) AllReadyIn.nil)
                  go_simp
                  refine hK _ _ ?_; clear hK K
                  refine wpAnyIn_done (by kernel_rfl) ?_ _
                  have bX2 := Boxed.kept (W := W1.drew) bX1 (only_of_below hB2 none) (by simp)
                  have c12 := bX2.cell
                  have f12 := bX2.frozen
                  have hlp : IntKind.i64.wrap ((pre.length : Int) + 1) = (pre.length : Int) + 1 := IntWalk.i64_in _ (by have := HYP.out.length_eq; simp at this hlt; omega)
                  gi_wp2
                  obtain ⟨e1, e2, e3, e4⟩ := Hend.out W2 hB2
                  exact ⟨e1, e2, e3, e4⟩
                · refine wpInOp_row (by rfl) 29 (.tmp 13) rfl Bx rfl hX1 Tryd.underlying29 rfl (by rw [Hcs.out]; exact dig_info) ?_
                  refine hK _ _ ?_; clear hK K
                  simp only [Act.put, List.setIfInBounds_toArray]
                  refine wpAnyIn_ready (rs := [4]) (by kernel_rfl) (by simp) (AllReadyIn.cons rfl (fun K hK => ?_) AllReadyIn.nil)
                  go_simp
                  refine ⟨trivial, ?_⟩
                  refine (CallsIn.inRound l (callsIn_wide.2 (Hsum.out W1.drew (Below.drew (Below.refl _ _))))).mono ?_
                  rintro e W2 ⟨rfl, hB2⟩
                  refine hK _ _ ?_; clear hK K
                  refine wpAnyIn_ready (rs := [6]) (by kernel_rfl) (by simp) (AllReadyIn.cons rfl (fun K hK => ?_) AllReadyIn.nil)
                  go_simp
                  refine hK _ _ ?_; clear hK K
                  refine wpAnyIn_ready (rs := [7]) (by kernel_rfl) (by simp) (AllReadyIn.cons rfl (fun K hK => ?_) AllReadyIn.nil)
                  go_simp
                  refine hK _ _ ?_; clear hK K
                  refine wpAnyIn_done (by kernel_rfl) ?_ _
                  have bX2 := Boxed.kept (W := W1.drew) bX1 (only_of_below hB2 none) (by simp)
                  have c12 := bX2.cell
                  have f12 := bX2.frozen
                  have hlp : IntKind.i64.wrap ((pre.length : Int) + 1) = (pre.length : Int) + 1 := IntWalk.i64_in _ (by have := HYP.out.length_eq; simp at this hlt; omega)
                  gi_wp2
                  obtain ⟨e1, e2, e3, e4⟩ := Hend.out W2 hB2
                  exact ⟨e1, e2, e3, e4⟩
              · refine wpInOp_row (by rfl) 29 (.tmp 13) rfl Bx rfl hX1 Tryd.underlying29 rfl (by rw [Hcs.out]; exact dig_info) ?_
                refine hK _ _ ?_; clear hK K
                simp only [Act.put, List.setIfInBounds_toArray]
                refine wpAnyIn_ready (rs := [3]) (by kernel_rfl) (by simp) (AllReadyIn.cons rfl (fun K hK => ?_) AllReadyIn.nil)
                go_simp
                refine hK _ _ ?_; clear hK K
                refine wpAnyIn_ready (rs := [4]) (by kernel_rfl) (by simp) (AllReadyIn.cons rfl (fun K hK => ?_) AllReadyIn.nil)
                go_simp
                refine ⟨trivial, ?_⟩
                refine (CallsIn.inRound l (callsIn_wide.2 (Hsum.out W1.drew (Below.drew (Below.refl _ _))))).mono ?_
                rintro e W2 ⟨rfl, hB2⟩
                refine hK _ _ ?_; clear hK K
                refine wpAnyIn_ready (rs := [6]) (by kernel_rfl) (by simp) (AllReadyIn.cons rfl (fun K hK => ?_) AllReadyIn.nil)
                go_simp
                refine hK _ _ ?_; clear hK K
                refine wpAnyIn_ready (rs := [7]) (by kernel_rfl) (by simp) (AllReadyIn.cons rfl (fun K hK => ?_) AllReadyIn.nil)
                go_simp
                refine hK _ _ ?_; clear hK K
                refine wpAnyIn_done (by kernel_rfl) ?_ _
                have bX2 := Boxed.kept (W := W1.drew) bX1 (only_of_below hB2 none) (by simp)
                have c12 := bX2.cell
                have f12 := bX2.frozen
                have hlp : IntKind.i64.wrap ((pre.length : Int) + 1) = (pre.length : Int) + 1 := IntWalk.i64_in _ (by have := HYP.out.length_eq; simp at this hlt; omega)
                gi_wp2
                obtain ⟨e1, e2, e3, e4⟩ := Hend.out W2 hB2
                exact ⟨e1, e2, e3, e4⟩
            case done =>
              rintro D zs W hD rfl ⟨bX, hB⟩ hK
              have hlen : ((ys.attach.length : Nat) : Int) = (m.length : Int) := by
                have := HYP.out.length_eq
                rw [List.length_attach]
                simp only [List.length_map] at this
                omega
              rw [hlen] at bX
              have hwW := hB.size
              have hOl := Off.of_below hB
              have hw5 := hBw5.size
              have hBwr : Below w.heap.size w wr := ⟨HO.out.os.trans hBw5.os, HO.out.tape.trans hBw5.tape, HO.out.output.trans hBw5.output, Nat.le_trans hBw5.size HO.out.size, fun i hi => (HO.out.block i (by omega) (by omega)).trans (hBw5.block i hi)⟩
              have hBwW : Below w.heap.size w W := (hBwr.trans (HBl.out.mono (by omega))).trans (hB.mono (by omega))
              have hkp : Kept (fun g => w.heap.size + 1 ≤ g ∧ g < wa.heap.size) s w.heap.size wr.heap.size D m.length w W :=
                ⟨HHs.out.off hOl (fun _ _ h => by omega), ((HRb.out.off HO.out (by omega)).below HBl.out (by omega)).off hOl (by omega), bX, hK, hBwW⟩
              have hcW := hcl.off hOl (fun _ _ h => by omega)
              have hb8W := hb8l.off hOl (by omega)
              have hRW := hRl.off hOl (by have := hR.1; omega)
              have htt : tot m' = tot m := (HPM.out.map _).sum_nat
              rw [← htt] at hcW
              have hdlt := (Array.getElem?_eq_some_iff.1 hK).1
              have hput := put_any (fun g => (wa.heap.size ≤ g ∧ g < W3.heap.size) ∨ W.heap.size ≤ g) c 1073741824 m' _ more W (fun i hi => .inr hi) hRW (by have := hR.1; omega)
                ((HM.out.off (Off.below (Off.refl (fun _ => False) w) hBwW (Nat.le_refl _)) (fun _ _ h => h.elim)).weak (fun _ _ h => by omega)) (hcW.weak (fun _ _ h => .inl h)) (by omega) (by omega) (by omega)
              have Hput := Lib.hid (hput.mono (R' := fun e w' => ∃ pv cd, Off (fun g => (wa.heap.size ≤ g ∧ g < W3.heap.size) ∨ W.heap.size ≤ g) W w' ∧ e = .returned (.tuple #[pv, cd])) (fun _ _ h => ⟨_, _, h.1, h.2.1⟩))
              have Hkp := Lib.hid hkp
              have c8 := hb8W.cell 0
              rw [htm]
              clear htm HHs HO HRb hput hkp hcW hb8W hOl hcl hb8l hRl hDl hbxl bX0 hB hRW bX hlen HBl hBwr hK
              go_wp2_with fail
              refine Hput.out.mono ?_
              rintro e Wa ⟨pv, cd, hOa, rfl⟩
              have hka : Kept (fun g => w.heap.size + 1 ≤ g ∧ g < wa.heap.size) s w.heap.size wr.heap.size D m.length w Wa :=
                ⟨Hkp.out.st.off hOa (fun _ _ h => by omega), Hkp.out.rb.off hOa (by omega), (hOa.block _ (by omega) (by omega)).trans Hkp.out.ct, (hOa.block _ hdlt (by omega)).trans Hkp.out.df,
                  ⟨hOa.os.trans hBwW.os, hOa.tape.trans hBwW.tape, hOa.output.trans hBwW.output, Nat.le_trans hBwW.size hOa.size, fun i hi => (hOa.block i (by omega) (by omega)).trans (hBwW.block i hi)⟩⟩
              have Hka := Lib.hid hka
              clear Hput c8 hOa hka Hkp hBwW
              go_wp2_with fail
              refine (put_nil _ _ _ Wa).mono ?_
              rintro e Wb ⟨⟨cs, hcs, h1, rfl⟩, hBb⟩
              have Hkb := Lib.hid (Hka.out.below hBb)
              clear hBb Hka
              go_wp2_with (first
                | (refine wpList_store_row rfl 29 (.tmp 17) (.tmp 87) rfl Wb.heap.size cs rfl rfl 29 _ (Blk.new Wb 29 (Array.replicate 32 (B 0))) (by rw [hcs]; exact dig_info) (by rw [hcs]; rfl) h1 ?_
                   have hbf := box_facts Wb cs
                   change wpList _ _ _ _ _ ((Wb.alloc (.cells (Array.replicate 32 (B 0)) 29)).setRow Wb.heap.size cs)
                   generalize (Wb.alloc (.cells (Array.replicate 32 (B 0)) 29)).setRow Wb.heap.size cs = Wc at hbf ⊢
                   obtain ⟨_, hBc⟩ := hbf
                   have Hkc := Lib.hid (Hkb.out.below hBc)
                   clear hBc Hkb))
              refine (get_nil _ Wc).mono ?_
              rintro e Wd ⟨rfl, hBd⟩
              have Hkd := Lib.hid (Hkc.out.below hBd)
              have c12 := Hkd.out.ct.cell
              clear hBd Hkc
              go_wp2_with fail
              refine (count_at Hkd.out.st).mono ?_
              rintro e w' ⟨rfl, rfl⟩
              go_wp2_with fail
              refine (bytes_at Hkd.out.st).mono ?_
              rintro e w' ⟨rfl, rfl⟩
              go_wp2_with fail
              refine (drop_nil _ Wd).mono ?_
              rintro e We ⟨rfl, hBe⟩
              have Hke := Lib.hid (Hkd.out.below hBe)
              clear hBe Hkd c12
              go_wp2_with fail
              refine (spoil_nil _ 0 1 We).mono ?_
              rintro e Wf ⟨rfl, hBf⟩
              have Hkf := Lib.hid (Hke.out.below hBf)
              clear hBf Hke
              go_wp2_with fail
              refine (has_nil _ Wf).mono ?_
              rintro e Wg ⟨rfl, hBg⟩
              have Hkg := Lib.hid (Hkf.out.below hBg)
              clear hBg Hkf
              have c0 := Hkg.out.rb.cell 0
              have f0 := Hkg.out.rb.frozen 0
              go_wp2_with fail
              refine (count_nil Wg).mono ?_
              rintro e w' ⟨rfl, rfl⟩
              go_wp2_with fail
              refine (clone_nil Wg).mono ?_
              rintro e w' ⟨rfl, rfl⟩
              go_wp2_with fail
              have hgr := grownBy_setCell' Wg w.heap.size (.bool true)
              have hrbE := Hkg.out.rb.set_ 0 (.bool true)
              have hdlt2 := (Array.getElem?_eq_some_iff.1 Hkg.out.df).1
              have hdfE : (Wg.setCell ⟨w.heap.size, 0, none⟩ (.bool true)).heap[D]? = some (.deferred (some [])) := (hgr.block D hdlt2 (by intro e; injection e with e; omega)).trans Hkg.out.df
              have hblE : Below w.heap.size w (Wg.setCell ⟨w.heap.size, 0, none⟩ (.bool true)) := Hkg.out.bl.setCell (Nat.le_refl _) _
              have hpo := fun o' => belowK_b (w := Wl) (n₀ := wr.heap.size) (by omega) (Wg.setCell ⟨w.heap.size, 0, none⟩ (.bool true)) D _ o' hD hdfE rfl rfl
              refine ⟨by simp, .inl ⟨_, _, rfl, run_takeDeferred hdfE, ?_⟩⟩
              exact ⟨_, results_box rfl _ _ w.heap.size _ rfl (((hpo _).cell (p := ⟨w.heap.size, 0, none⟩) (by show w.heap.size < _; omega)).trans (hrbE.cell 0)) bool_isAgg, rfl, hblE.trans ((hpo _).mono (by omega))⟩
            case stop =>
              rintro D c pre W _ _ h _
              exact h.elim
end Go.Proofs.YtmjaclgbagogfaaDoor
