/- A blob is laid into a map. -/
import Derived.Test.YtmjaclgbagogfaaDoorStoC
namespace Go.Proofs.YtmjaclgbagogfaaDoor
open Go.RowKit Go.Maps Go.MapKept Go.Proofs.YtmjaclgbagogfaaDoor.Sha

theorem Held.run_upd {F : Nat → Prop} {W : World} {mb clk : Nat} {l : List Rec} (h : Held F W mb l clk) (d c : List UInt8) (hd : IsD d) (v : Value) (hv : Own W v c) (hvF : ∀ g, v.ownBlock = some g → F g)
    (hfr : ∀ r ∈ l, ∀ g, r.v.ownBlock = some g → v.ownBlock ≠ some g) :
    ∃ w' clk', (Instr.mapUpdate 56 (.map (some mb)) (encD d) v).run Tryd.prog W = .ok () w' ∧ Held F w' mb (updR l d c v clk) clk' ∧ W.grownBy w' (some mb) ∧ w'.heap.size = W.heap.size := by
  obtain ⟨w', clk', hrun, hm, hg, hz⟩ := Go.Proofs.YtmjaclgbagogfaaDoor.run_upd keyD Tryd.underlying56 h.map d hd v
  refine ⟨w', clk', hrun, ?_, hg, hz⟩
  rw [← updR_ent l d c v clk] at hm
  have keep : ∀ (u : Value) (cc : List UInt8), Own W u cc → Own w' u cc := fun u cc hu => own_keep hu fun g hgu => hg.block g (own_lt hu hgu) (by rw [← hgu]; exact map_ne_own hu h.map)
  have mem : ∀ r ∈ updR l d c v clk, r ∈ l ∨ (r.v = v ∧ r.c = c) := by
    intro r hr
    unfold updR at hr
    split at hr
    · obtain ⟨r', hr', rfl⟩ := List.mem_map.1 hr
      by_cases e : r'.d = d
      · rw [if_pos e]; exact .inr ⟨rfl, rfl⟩
      · rw [if_neg e]; exact .inl hr'
    · rcases List.mem_append.1 hr with hr | hr
      · exact .inl hr
      · rw [List.mem_singleton.1 hr]; exact .inr ⟨rfl, rfl⟩
  refine ⟨hm, h.here, fun r hr => ?_, fun r hr g hgr => ?_, ?_⟩
  · rcases mem r hr with h1 | ⟨h1, h2⟩
    · exact keep _ _ (h.own r h1)
    · rw [h1, h2]; exact keep _ _ hv
  · rcases mem r hr with h1 | ⟨h1, h2⟩
    · exact h.own_in r h1 g hgr
    · rw [h1] at hgr; exact hvF g hgr
  · unfold updR
    split
    · rw [List.pairwise_map]
      have hk : l.Pairwise (fun a b => a.d ≠ b.d) := by
        have := h.map.keys
        rw [List.map_map, List.nodup_iff_pairwise_ne, List.pairwise_map] at this
        exact this
      refine (h.apart.and hk).imp_of_mem ?_
      rintro a b ha hb ⟨h1, h2⟩ g
      by_cases ea : a.d = d
      · have eb : b.d ≠ d := fun e => h2 (ea.trans e.symm)
        rw [if_pos ea, if_neg eb]
        intro hg1 hg2
        exact hfr b hb g hg2 hg1
      · rw [if_neg ea]
        by_cases eb : b.d = d
        · rw [if_pos eb]
          intro hg1 hg2
          exact hfr a ha g hg1 hg2
        · rw [if_neg eb]; exact h1 g
    · rw [List.pairwise_append]
      refine ⟨h.apart, by simp, ?_⟩
      intro a ha b hb g hg1
      rw [List.mem_singleton.1 hb]
      exact hfr a ha g hg1
theorem exec_upd {P : Program} {W W' : World} {o : Oper} {a : Act} {T : TypeId} {m x v : Operand} {mv xv vv : Value} (ho : o.op = .mapUpdate T m x v) (hm : a.eval m = mv) (hx : a.eval x = xv) (hv : a.eval v = vv)
    (hrun : (Instr.mapUpdate T mv xv vv).run P W = .ok () W') {K : Act → World → Prop} {Q : Exit → Act → World → Prop} (hd : o.dst = none) (hK : K a W') : o.wp P a W K Q := by
  unfold Oper.wp
  simp [execOp, ho, hm, hx, hv, hrun, Result.andThen]
  show K (a.put o.dst undef) W'
  rw [hd]
  exact hK
/-- The iterator of a loop over a map is no block of a store. -/
theorem Held.grown_iter {F : Nat → Prop} {w w' : World} {mb clk r b ck : Nat} {l : List Rec} {done : List (Ent (List UInt8))} (h : Held F w mb l clk) (hI : IterAt w r b ck done) (hg : w.grownBy w' (some r)) : Held F w' mb l clk := by
  refine h.keep1 (hg.block mb h.map.lt ?_) fun x hx g hgx => hg.block g (own_lt (h.own x hx) hgx) ?_
  · intro e; injection e with e
    have h1 := h.map.heap
    rw [e] at h1
    unfold IterAt at hI
    rw [hI] at h1
    cases h1
  · intro e; injection e with e
    subst e
    unfold IterAt at hI
    rcases (h.own x hx).2 with ⟨h0, _⟩ | ⟨g', cap, cur, h0, _, hh, _⟩
    · rw [h0] at hgx; simp [Value.ownBlock] at hgx
    · rw [h0] at hgx
      have : g' = g := by simpa [Value.ownBlock] using hgx
      subst this
      rw [hI] at hh
      cases hh
theorem Blk.grown_iter {w w' : World} {g r b ck : Nat} {t : TypeId} {cs : Array Value} {done : List (Ent (List UInt8))} (h : Blk w g t cs) (hI : IterAt w r b ck done) (hg : w.grownBy w' (some r)) : Blk w' g t cs := by
  refine h.grown hg ?_
  intro e; injection e with e
  subst e
  unfold IterAt at hI; unfold Blk at h
  rw [hI] at h
  cases h
end Go.Proofs.YtmjaclgbagogfaaDoor
