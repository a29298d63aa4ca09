/- A store's Spoil and Clone. -/
import Derived.Test.YtmjaclgbagogfaaDoorStoG
import Derived.Laws.OwnMore
namespace Go.Proofs.YtmjaclgbagogfaaDoor
open Go.RowKit Go.Maps Go.MapKept Go.Proofs.YtmjaclgbagogfaaDoor.Sha

/-- A byte of a blob is turned. -/
def spoilTo (m : M) (d : List UInt8) (k : Int) (t : UInt8) : M :=
  match get m d with
  | none => m
  | some c => if k < 0 ∨ (c.length : Int) ≤ k ∨ t = 0 then m else m.map fun x => if x.1 = d then (x.1, x.2.set k.toNat (x.2.getD k.toNat 0 ^^^ t)) else x
def spoilCode (m : M) (d : List UInt8) (k : Int) (t : UInt8) : Int :=
  match get m d with
  | none => 50
  | some c => if k < 0 ∨ (c.length : Int) ≤ k ∨ t = 0 then 1 else 0
theorem xor8_val (a b : UInt8) : bits .xor .u8 (a.toNat : Int) (b.toNat : Int) = ((a ^^^ b).toNat : Int) := by
  rw [u8_xor_nat _ _ a.toNat_lt b.toNat_lt, UInt8.toNat_xor]
theorem spoil_rec (l : List Rec) (d : List UInt8) (f : List UInt8 → List UInt8) : (l.map fun r => if r.d = d then { r with c := f r.c } else r).map Rec.abs = (l.map Rec.abs).map fun x => if x.1 = d then (x.1, f x.2) else x := by
  rw [List.map_map, List.map_map]
  apply List.map_congr_left
  intro r _
  by_cases e : r.d = d <;> simp [Rec.abs, e]
theorem spoil_ent (l : List Rec) (d : List UInt8) (f : List UInt8 → List UInt8) : (l.map fun r => if r.d = d then { r with c := f r.c } else r).map Rec.ent = l.map Rec.ent := by
  rw [List.map_map]
  apply List.map_congr_left
  intro r _
  by_cases e : r.d = d <;> simp [Rec.ent, e]
theorem Held.spoil {F : Nat → Prop} {w : World} {mb clk : Nat} {l : List Rec} (h : Held F w mb l clk) {r : Rec} (hr : r ∈ l) {g cap : Nat} (hv : r.v = .slice (some ⟨g, 0, none⟩) r.c.length cap) (j : Nat) (u : UInt8) (f : List UInt8 → List UInt8) (hf : f r.c = r.c.set j u) :
    Held F (w.setCell ⟨g, j, none⟩ (B u)) mb (l.map fun x => if x.d = r.d then { x with c := f x.c } else x) clk := by
  have hkeys : (l.map (·.d)).Nodup := by
    have := h.map.keys
    rwa [List.map_map] at this
  have hother : ∀ x ∈ l, x.d ≠ r.d → x.v.ownBlock ≠ some g := by
    intro x hx hne hg
    obtain ⟨a, b, e⟩ := List.append_of_mem hr
    have h5 := h.apart
    rw [e] at hx h5
    rw [List.pairwise_append] at h5
    have hrg : r.v.ownBlock = some g := by rw [hv]; rfl
    rcases List.mem_append.1 hx with hx | hx
    · exact h5.2.2 x hx r (by simp) g hg hrg
    · rcases List.mem_cons.1 hx with hx | hx
      · exact hne (by rw [hx])
      · exact (List.pairwise_cons.1 h5.2.1).1 x hx g hrg hg
  have hsame : ∀ x ∈ l, x.d = r.d → x = r := by
    intro x hx e
    obtain ⟨i, hi, rfl⟩ := List.mem_iff_getElem.1 hx
    obtain ⟨i', hi', rfl⟩ := List.mem_iff_getElem.1 hr
    have : i = i' := by
      rw [List.nodup_iff_pairwise_ne, List.pairwise_map, List.pairwise_iff_getElem] at hkeys
      rcases Nat.lt_trichotomy i i' with h1 | h1 | h1
      · exact absurd e (hkeys i i' hi hi' h1)
      · exact h1
      · exact absurd e.symm (hkeys i' i hi' hi h1)
    subst this; rfl
  have hown := h.own r hr
  have hgF : F g := h.own_in r hr g (by rw [hv]; rfl)
  have hmb : mb ≠ g := fun e => map_ne_own hown h.map (by rw [hv, e]; rfl)
  refine ⟨?_, h.here, ?_, ?_, ?_⟩
  · rw [spoil_ent l r.d f]
    exact h.map.far (p := ⟨g, j, none⟩) hmb _
  · intro x hx
    obtain ⟨y, hy, rfl⟩ := List.mem_map.1 hx
    by_cases e : y.d = r.d
    · obtain rfl := hsame y hy e
      rw [if_pos rfl]
      show Own _ y.v (f y.c)
      rw [hf]
      have h1 := hown
      unfold Own at h1 ⊢
      rw [hv] at h1 ⊢
      have := (World.ownsRow.stored h1 j (B u)).1
      simpa [List.map_set] using this
    · rw [if_neg e]
      exact own_keep (h.own y hy) (fun g' hg' => Below.heap_setCell _ _ _ _ (fun (e' : g' = g) => hother y hy e (by rw [hg', e'])))
  · intro x hx g' hg'
    obtain ⟨y, hy, rfl⟩ := List.mem_map.1 hx
    by_cases e : y.d = r.d
    · rw [if_pos e] at hg'; exact h.own_in y hy g' hg'
    · rw [if_neg e] at hg'; exact h.own_in y hy g' hg'
  · rw [List.pairwise_map]
    refine h.apart.imp ?_
    intro a b hab g' 
    have e1 : ∀ x : Rec, (if x.d = r.d then { x with c := f x.c } else x).v = x.v := fun x => by split <;> rfl
    rw [e1, e1]
    exact hab g'
set_option maxRecDepth 100000 in
set_option maxHeartbeats 1000000 in
theorem spoil_any (F : Nat → Prop) (s : Nat) (q n : Int) (m : M) (d : List UInt8) (hd : IsD d) (k : Int) (t : UInt8) (w : World) (h : Store F w s q n m) (hc : ∀ c, get m d = some c → c.length ≤ 4611686018427387904) :
    Calls Tryd.prog 22 #[.pointer (some ⟨s, 0, none⟩), encD d, I k, B t] w fun e w' => e = .returned (I (spoilCode m d k t)) ∧ Store F w' s q n (spoilTo m d k t) ∧ Off F w w' := by
  obtain ⟨code, hcode⟩ : ∃ c, c = spoilCode m d k t := ⟨_, rfl⟩
  obtain ⟨m', hm'⟩ : ∃ m', m' = spoilTo m d k t := ⟨_, rfl⟩
  rw [← hcode, ← hm']
  unfold spoilCode at hcode
  unfold spoilTo at hm'
  have Hcode := Lib.hid hcode
  have Hm' := Lib.hid hm'
  clear hcode hm'
  obtain ⟨mb, l, clock, hK, hs, hH, hm⟩ := h
  obtain ⟨cs, ed, hcs, h1⟩ := encD_cells d hd
  have hD := Blk.new w 29 cs
  have hM := hH.alloc (.cells cs 29)
  have hK0 := hK.alloc (.cells cs 29)
  have hB : Off F w (w.alloc (.cells cs 29)) := (Off.refl F w).alloc _
  have c2 := hK0.cell 2
  have Ed := Lib.hid ed
  have Hm := Lib.hid hm
  rw [ed]
  clear ed hH hK hm
  go_enter Tryd.func22, Tryd.ntmps22
  go_wp2_with fail
  generalize w.alloc (.cells cs 29) = W0 at hD c2 hB hM hK0 ⊢
  refine wp_region_quiet_lit (by kernel_rfl) (by kernel_rfl) ?_
  repeat (first | (first
    | (refine quiet_load_row 29 (.tmp 5) rfl rfl _ rfl hD Tryd.underlying29 rfl (by rw [hcs]; exact dig_info) ?_)
    | (refine quiet_look (.tmp 17) (.tmp 18) true rfl rfl keyD Tryd.underlying56 slice_zero hM.map d hd rfl Ed.out.symm ?_; rw [look_some_get])) | quiet_step (fail))
  refine wpQuiet_nil ?_
  intro _ hw'
  obtain ⟨nq, hw''⟩ := hw'
  subst hw''
  replace hB := hB.drewN nq
  replace hM := hM.drewN nq
  replace hK0 := hK0.drewN nq
  clear c2 hD
  generalize W0.drewN nq = W at hB hM hK0 ⊢
  rcases look_rec l d with ⟨e1, e2⟩ | ⟨r, hr, hrd, e1, e2⟩
  · rw [e1, e2]
    simp only [Option.getD_none, Option.isSome_none]
    have e3 : get m d = none := by rw [← Hm.out]; exact e2
    have hc1 : code = 50 := by rw [Hcode.out, e3]
    have hm1 : m' = m := by rw [Hm'.out, e3]
    clear e1 e2 e3
    subst hc1 hm1
    go_wp2_with fail
    go_ret
    exact ⟨rfl, ⟨mb, l, clock, hK0, hs, hM, Hm.out⟩, hB⟩
  · rw [e1, e2]
    simp only [Option.getD_some, Option.isSome_some]
    have e3 : get m d = some r.c := by rw [← Hm.out]; exact e2
    have hlen := hc r.c e3
    have Hr := Lib.hid hr
    have Hrd := Lib.hid hrd
    obtain ⟨hAv, hcapv, hrv, hcc⟩ := own_form (hM.own r hr)
    by_cases hbad : k < 0 ∨ (r.c.length : Int) ≤ k ∨ t = 0
    · have hc1 : code = 1 := by rw [Hcode.out, e3]; exact if_pos hbad
      have hm1 : m' = m := by rw [Hm'.out, e3]; exact if_pos hbad
      rw [hrv]
      clear e1 e2 e3 hrv hr hrd
      subst hc1 hm1
      rcases Int.lt_or_le k 0 with hk0 | hk0
      · go_wp2_with fail
        go_ret
        exact ⟨rfl, ⟨mb, l, clock, hK0, hs, hM, Hm.out⟩, hB⟩
      · rcases Int.lt_or_le k (r.c.length : Int) with hk1 | hk1
        · have ht : t = 0 := by
            rcases hbad with h | h | h
            · omega
            · omega
            · exact h
          subst ht
          clear hbad
          go_wp2_with fail
          go_ret
          exact ⟨rfl, ⟨mb, l, clock, hK0, hs, hM, Hm.out⟩, hB⟩
        · go_wp2_with fail
          go_ret
          exact ⟨rfl, ⟨mb, l, clock, hK0, hs, hM, Hm.out⟩, hB⟩
    · have hk0 : 0 ≤ k := by omega
      have hk1 : k < r.c.length := by omega
      have ht0 : t ≠ 0 := fun e => hbad (.inr (.inr e))
      have hc1 : code = 0 := by rw [Hcode.out, e3]; exact if_neg hbad
      have hm1 : m' = m.map fun x => if x.1 = d then (x.1, x.2.set k.toNat (x.2.getD k.toNat 0 ^^^ t)) else x := by rw [Hm'.out, e3]; exact if_neg hbad
      subst hc1
      obtain ⟨j, rfl⟩ := Int.eq_ofNat_of_zero_le hk0
      have hj : j < r.c.length := by omega
      rw [Int.toNat_natCast] at hm1
      have htb : ((t.toNat : Int) == 0) = false := by
        rw [beq_eq_false_iff_ne]
        intro e
        exact ht0 (UInt8.toNat.inj (by simpa using e))
      obtain ⟨g, cap, hvg⟩ : ∃ g cap, r.v = .slice (some ⟨g, 0, none⟩) r.c.length cap := by
        rcases (hM.own r hr).2 with ⟨_, h0⟩ | ⟨g', cap, cur, hv, _⟩
        · omega
        · exact ⟨g', cap, hv⟩
      have hown := hM.own r hr
      have hcell : W.cell? ⟨g, j, none⟩ = some (B (r.c.getD j 0)) := by
        have hc := hown.cells (g := g) (by rw [hvg]; rfl) j (B (r.c.getD j 0)) (by
          rw [List.getElem?_map, List.getElem?_eq_getElem hj, List.getD_eq_getElem?_getD, List.getElem?_eq_getElem hj]; rfl)
        rw [add_none] at hc
        simpa using hc
      have hfr : W.frozen? ⟨g, j, none⟩ = false := by
        have h1 := hown
        unfold Own at h1
        rw [hvg] at h1
        exact World.ownsRow.frozenAt h1 j
      have hsp := hM.spoil hr hvg j (r.c.getD j 0 ^^^ t) (fun c => c.set j (c.getD j 0 ^^^ t)) rfl
      have hgF : F g := hM.own_in r hr g (by rw [hvg]; rfl)
      have hgs : g ≠ s := fun e => own_blk_ne hown hK0 (by decide) (by rw [hvg, e]; rfl)
      have hst : ∀ W', W' = W.setCell ⟨g, j, none⟩ (B (r.c.getD j 0 ^^^ t)) → Store F W' s q n m' ∧ Off F w W' := by
        rintro _ rfl
        refine ⟨⟨mb, _, clock, hK0.far (p := ⟨g, j, none⟩) (fun e => hgs e.symm) _, hs, hsp, ?_⟩, hB.set_ (p := ⟨g, j, none⟩) hgF _⟩
        rw [hm1, ← Hm.out, spoil_rec l r.d (fun c => c.set j (c.getD j 0 ^^^ t)), Hrd.out]
      have Hst := Lib.hid hst
      have Hx := Lib.hid (xor8_val (r.c.getD j 0) t)
      rw [hvg]
      clear e1 e2 e3 hrv hr hrd hbad hsp hst hm1 hown hvg
      go_wp2_with fail
      go_ret
      have hgj : r.c.getD j 0 = r.c[j] := by rw [List.getD_eq_getElem?_getD, List.getElem?_eq_getElem hj]; rfl
      have hx := Hx.out
      rw [hgj] at hx
      exact ⟨rfl, Hst.out _ (by rw [hx, hgj])⟩
end Go.Proofs.YtmjaclgbagogfaaDoor
