/- The second loop of PutAll, without the walk: what is laid, blob by blob. -/
import Derived.Test.YtmjaclgbagogfaaDoorStoU
namespace Go.Proofs.YtmjaclgbagogfaaDoor
open Go.RowKit Go.Maps Go.MapKept Go.Proofs.YtmjaclgbagogfaaDoor.Sha

/-- What is to be laid: the new blobs and the room that they need; none: one is too long. -/
def plan (m : M) : List (List UInt8) → M → Nat → Option (M × Nat)
  | [], fm, need => some (fm, need)
  | b :: bs, fm, need =>
    if 4096 < b.length then none
    else if (get fm (digest b)).isSome then plan m bs fm need
    else plan m bs (fm ++ [(digest b, b)]) (need + if (get m (digest b)).isSome then 0 else b.length)
/-- A blob is laid where there is none, or a broken one. -/
def mend (m : M) (x : List UInt8 × List UInt8) : M :=
  match get m x.1 with
  | some c => if digest c = x.1 then m else put m x.1 x.2
  | none => put m x.1 x.2
def tot (m : M) : Nat := (m.map fun x => x.2.length).sum
def lens (l : List (List UInt8)) : Nat := (l.map List.length).sum

theorem tot_get {m : M} {d c : List UInt8} (h : get m d = some c) : c.length ≤ tot m := by
  induction m with
  | nil => cases h
  | cons x m ih =>
    unfold tot
    rw [List.map_cons, List.sum_cons]
    by_cases e : x.1 = d
    · have : get (x :: m) d = some x.2 := by simp [get, e]
      rw [this] at h; injection h with h; subst h; omega
    · have : get (x :: m) d = get m d := by simp [get, e]
      rw [this] at h
      have := ih h
      unfold tot at this
      omega
theorem map_other {m : M} {d c : List UInt8} (h : d ∉ m.map (·.1)) : m.map (fun x => if x.1 = d then (d, c) else x) = m := by
  induction m with
  | nil => rfl
  | cons x m ih =>
    simp only [List.map_cons, List.mem_cons, not_or] at h
    rw [List.map_cons, ih h.2, if_neg (fun e => h.1 e.symm)]
theorem tot_put {m : M} (hn : (m.map (·.1)).Nodup) (d c : List UInt8) : tot (put m d c) + ((get m d).getD []).length = tot m + c.length := by
  unfold put
  split
  · rename_i hs
    induction m with
    | nil => cases hs
    | cons x m ih =>
      simp only [List.map_cons, List.nodup_cons] at hn
      by_cases e : x.1 = d
      · have e1 : get (x :: m) d = some x.2 := by simp [get, e]
        subst e
        rw [List.map_cons, if_pos rfl, map_other hn.1, e1]
        simp only [tot, List.map_cons, List.sum_cons, Option.getD_some]
        omega
      · have e1 : get (x :: m) d = get m d := by simp [get, e]
        rw [e1] at hs ⊢
        have := ih hn.2 hs
        rw [List.map_cons, if_neg e]
        simp only [tot, List.map_cons, List.sum_cons] at this ⊢
        omega
  · rename_i hs
    have : get m d = none := by simpa using hs
    rw [this]
    simp [tot]
theorem put_keys (m : M) (d c : List UInt8) : (put m d c).map (·.1) = if (get m d).isSome then m.map (·.1) else m.map (·.1) ++ [d] := by
  unfold put
  split
  · rw [List.map_map]
    apply List.map_congr_left
    intro x _
    by_cases e : x.1 = d <;> simp [e]
  · simp
theorem put_nodup {m : M} (hn : (m.map (·.1)).Nodup) (d c : List UInt8) : ((put m d c).map (·.1)).Nodup := by
  rw [put_keys]
  split
  · exact hn
  · rename_i hs
    have hs : get m d = none := by simpa using hs
    rw [List.nodup_append]
    refine ⟨hn, by simp, ?_⟩
    intro a ha b hb e
    rw [List.mem_singleton.1 hb] at e
    obtain ⟨x, hx, rfl⟩ := List.mem_map.1 ha
    exact (get_none m d).1 hs x hx e
theorem mend_eq (m : M) (x : List UInt8 × List UInt8) : mend m x = m ∨ mend m x = put m x.1 x.2 := by
  unfold mend
  split
  · split
    · exact .inl rfl
    · exact .inr rfl
  · exact .inr rfl
theorem mend_nodup {m : M} (hn : (m.map (·.1)).Nodup) (x : List UInt8 × List UInt8) : ((mend m x).map (·.1)).Nodup := by
  rcases mend_eq m x with e | e <;> rw [e]
  · exact hn
  · exact put_nodup hn _ _
theorem mend_tot {m : M} (hn : (m.map (·.1)).Nodup) (x : List UInt8 × List UInt8) : tot (mend m x) ≤ tot m + x.2.length := by
  rcases mend_eq m x with e | e <;> rw [e]
  · omega
  · have := tot_put hn x.1 x.2; omega
theorem mends_tot (l : M) : ∀ (m : M), (m.map (·.1)).Nodup → tot (l.foldl mend m) ≤ tot m + tot l ∧ ((l.foldl mend m).map (·.1)).Nodup := by
  induction l with
  | nil => intro m h; exact ⟨by simp [tot], h⟩
  | cons x l ih =>
    intro m h
    obtain ⟨h1, h2⟩ := ih (mend m x) (mend_nodup h x)
    have := mend_tot h x
    refine ⟨?_, h2⟩
    have e : tot (x :: l) = x.2.length + tot l := by simp [tot]
    rw [List.foldl_cons, e]; omega
/-! ### some of a list, all of a list -/
theorem part_in {l a b : List Rec} {x y : Rec} (e : l = a ++ x :: b) (h : y ∈ l) (ht : y.t ≠ x.t) : y ∈ a ++ b := by
  subst e
  rcases List.mem_append.1 h with h | h
  · exact List.mem_append.2 (.inl h)
  · rcases List.mem_cons.1 h with h | h
    · exact absurd (by rw [h]) ht
    · exact List.mem_append.2 (.inr h)
theorem some_sum (f : Rec → Nat) : ∀ (dn l : List Rec), (∀ r ∈ dn, r ∈ l) → (dn.map Rec.t).Nodup → (dn.map f).sum ≤ (l.map f).sum := by
  intro dn
  induction dn with
  | nil => intro l _ _; simp
  | cons x dn ih =>
    intro l h hn
    simp only [List.map_cons, List.nodup_cons] at hn
    obtain ⟨a, b, e⟩ := List.append_of_mem (h x (by simp))
    have := ih (a ++ b) (fun r hr => part_in e (h r (by simp [hr])) (fun et => hn.1 (by rw [← et]; exact List.mem_map_of_mem hr))) hn.2
    subst e
    simp only [List.map_append, List.map_cons, List.sum_append, List.sum_cons] at this ⊢
    omega
theorem some_len (dn l : List Rec) (h : ∀ r ∈ dn, r ∈ l) (hn : (dn.map Rec.t).Nodup) : dn.length ≤ l.length := by
  have h1 : ∀ l : List Rec, (l.map fun _ => 1).sum = l.length := fun l => by
    induction l with
    | nil => rfl
    | cons x l ih => simp only [List.map_cons, List.sum_cons, List.length_cons, ih]; omega
  have := some_sum (fun _ => 1) dn l h hn
  rwa [h1, h1] at this
theorem all_perm : ∀ (dn l : List Rec), (∀ r ∈ dn, r ∈ l) → (dn.map Rec.t).Nodup → (l.map Rec.t).Nodup → (∀ r ∈ l, r.t ∈ dn.map Rec.t) → dn.Perm l := by
  intro dn
  induction dn with
  | nil =>
    intro l _ _ _ h
    rcases l with _ | ⟨x, l⟩
    · exact .nil
    · exact absurd (h x (by simp)) (by simp)
  | cons x dn ih =>
    intro l h hn hl hall
    simp only [List.map_cons, List.nodup_cons] at hn
    obtain ⟨a, b, e⟩ := List.append_of_mem (h x (by simp))
    subst e
    have hx : ∀ r ∈ a ++ b, r.t ≠ x.t := by
      intro r hr et
      rw [List.map_append, List.map_cons, List.nodup_append] at hl
      rcases List.mem_append.1 hr with hr | hr
      · exact hl.2.2 r.t (List.mem_map_of_mem hr) x.t (by simp) et
      · have := hl.2.1
        rw [List.nodup_cons] at this
        exact this.1 (by rw [← et]; exact List.mem_map_of_mem hr)
    have hp := ih (a ++ b) (fun r hr => part_in rfl (h r (by simp [hr])) (fun et => hn.1 (by rw [← et]; exact List.mem_map_of_mem hr))) hn.2
      (hl.sublist (by simp)) (fun r hr => by
        have h1 := hall r (by
          rcases List.mem_append.1 hr with hr | hr
          · exact List.mem_append.2 (.inl hr)
          · exact List.mem_append.2 (.inr (by simp [hr])))
        rw [List.map_cons, List.mem_cons] at h1
        exact h1.resolve_left (hx r hr))
    exact (hp.cons x).trans List.perm_middle.symm

/-- The second loop: of the new blobs (the map in block w.heap.size, with the entries lf) dn have been laid. -/
structure Lay (F : Nat → Prop) (w : World) (s mb clk : Nat) (q : Int) (lf : List Rec) (m : M) (dn l : List Rec) (clock : Nat) (wr : World) : Prop where
  dn_in : ∀ r ∈ dn, r ∈ lf
  dn_t : (dn.map Rec.t).Nodup
  fresh : Held (fun g => w.heap.size ≤ g) wr w.heap.size lf clk
  blk : Blk wr s 58 #[I q, I (tot (l.map Rec.abs)), .map (some mb)]
  held : Held F wr mb l clock
  abs : l.map Rec.abs = (dn.map Rec.abs).foldl mend m
  off : Off F w wr
  s_lt : s < w.heap.size
  mb_lt : mb < w.heap.size
  here : F s
  keys : (m.map (·.1)).Nodup
  sep : ∀ r ∈ l, ∀ g, r.v.ownBlock = some g → g < w.heap.size ∨ ∃ r2 ∈ dn, r2.v = r.v
section
variable {F : Nat → Prop} {w wr wr' : World} {s mb clk clock i : Nat} {q : Int} {lf dn l : List Rec} {m : M}
theorem Lay.below (h : Lay F w s mb clk q lf m dn l clock wr) (hb : Below wr.heap.size wr wr') : Lay F w s mb clk q lf m dn l clock wr' :=
  { h with fresh := h.fresh.below hb, blk := h.blk.below hb h.blk.lt, held := h.held.below hb, off := h.off.below hb h.off.size }
theorem Lay.drewN (h : Lay F w s mb clk q lf m dn l clock wr) (n : Nat) : Lay F w s mb clk q lf m dn l clock (wr.drewN n) := h.below (Below.drewN (Below.refl _ wr) n)
theorem Lay.iter (h : Lay F w s mb clk q lf m dn l clock wr) {done : List (Ent (List UInt8))} {b ck : Nat} (hI : IterAt wr i b ck done) (hi : w.heap.size ≤ i) (hg : wr.grownBy wr' (some i)) : Lay F w s mb clk q lf m dn l clock wr' :=
  { h with fresh := h.fresh.grown_iter hI hg, blk := h.blk.grown_iter hI hg, held := h.held.grown_iter hI hg, off := h.off.grown hg (fun g e _ => by injection e with e; omega) }
theorem Lay.size (h : Lay F w s mb clk q lf m dn l clock wr) : tot (l.map Rec.abs) ≤ tot m + tot (lf.map Rec.abs) := by
  rw [h.abs]
  have h1 := (mends_tot (dn.map Rec.abs) m h.keys).1
  have h2 : tot (dn.map Rec.abs) ≤ tot (lf.map Rec.abs) := by
    unfold tot
    rw [List.map_map, List.map_map]
    exact some_sum _ dn lf h.dn_in h.dn_t
  omega
theorem Lay.nodup (h : Lay F w s mb clk q lf m dn l clock wr) : ((l.map Rec.abs).map (·.1)).Nodup := by
  rw [h.abs]; exact (mends_tot (dn.map Rec.abs) m h.keys).2
theorem nodup_snoc {α : Type} {l : List α} {x : α} (h : l.Nodup) (hx : x ∉ l) : (l ++ [x]).Nodup := by
  rw [List.nodup_append]
  exact ⟨h, by simp, fun a ha b hb e => hx (by rw [List.mem_singleton.1 hb] at e; rw [← e]; exact ha)⟩
theorem Lay.more (h : Lay F w s mb clk q lf m dn l clock wr) {rx : Rec} (hrx : rx ∈ lf) (hrt : rx.t ∉ dn.map Rec.t) : dn.length < lf.length := by
  have := some_len (dn ++ [rx]) lf (fun r hr => by
    rcases List.mem_append.1 hr with hr | hr
    · exact h.dn_in r hr
    · rw [List.mem_singleton.1 hr]; exact hrx) (by rw [List.map_append]; exact nodup_snoc h.dn_t hrt)
  rw [List.length_append] at this
  simp only [List.length_cons, List.length_nil] at this
  omega
theorem Lay.same (h : Lay F w s mb clk q lf m dn l clock wr) {rx : Rec} (hrx : rx ∈ lf) (hrt : rx.t ∉ dn.map Rec.t) {c : List UInt8} (hg : get (l.map Rec.abs) rx.d = some c) (hd : digest c = rx.d) :
    Lay F w s mb clk q lf m (dn ++ [rx]) l clock wr :=
  { h with
    dn_in := fun r hr => by
      rcases List.mem_append.1 hr with hr | hr
      · exact h.dn_in r hr
      · rw [List.mem_singleton.1 hr]; exact hrx
    dn_t := by rw [List.map_append]; exact nodup_snoc h.dn_t hrt
    abs := by
      rw [List.map_append, List.foldl_append, ← h.abs]
      simp [mend, Rec.abs, hg, hd]
    sep := fun r hr g hgr => by
      rcases h.sep r hr g hgr with h1 | ⟨r2, h2, h3⟩
      · exact .inl h1
      · exact .inr ⟨r2, by simp [h2], h3⟩ }
/-- A new blob is laid: the count of bytes, then the map. -/
theorem Lay.lay (h : Lay F w s mb clk q lf m dn l clock wr) {rx : Rec} (hrx : rx ∈ lf) (hrt : rx.t ∉ dn.map Rec.t) (hg : ∀ c, get (l.map Rec.abs) rx.d = some c → digest c ≠ rx.d)
    (hF : ∀ i, w.heap.size ≤ i → F i) {n : Int} (hn : n = tot (l.map Rec.abs) + rx.c.length - ((get (l.map Rec.abs) rx.d).getD []).length)
    {done : List (Ent (List UInt8))} {b ck : Nat} (hI : IterAt wr i b ck done) (hi : w.heap.size ≤ i) :
    ∃ W clock', (Instr.mapUpdate 56 (.map (some mb)) (encD rx.d) rx.v).run Tryd.prog (wr.setCell ⟨s, 1, none⟩ (I n)).drew = .ok () W ∧
      Lay F w s mb clk q lf m (dn ++ [rx]) (updR l rx.d rx.c rx.v clock) clock' W ∧ IterAt W i b ck done := by
  have hd : IsD rx.d := h.fresh.map.good _ (List.mem_map_of_mem (f := Rec.ent) hrx)
  have hne : mb ≠ s := by
    rintro rfl
    have := h.held.map.heap
    rw [h.blk] at this
    cases this
  have hfar : ∀ g, g ≠ s → (wr.setCell ⟨s, 1, none⟩ (I n)).drew.heap[g]? = wr.heap[g]? := fun g hg => Below.heap_setCell _ _ _ _ hg
  have hH : Held F (wr.setCell ⟨s, 1, none⟩ (I n)).drew mb l clock :=
    h.held.keep1 (hfar _ hne) (fun r hr g hgr => hfar _ (fun e => own_blk_ne (h.held.own r hr) h.blk (by decide) (by rw [hgr, e])))
  have hM : Held (fun g => w.heap.size ≤ g) (wr.setCell ⟨s, 1, none⟩ (I n)).drew w.heap.size lf clk :=
    h.fresh.keep (fun i _ hi => hfar i (by have := h.s_lt; omega))
  have hB : Blk (wr.setCell ⟨s, 1, none⟩ (I n)).drew s 58 #[I q, I n, .map (some mb)] := h.blk.set_ 1 (I n)
  have hO : Off F w (wr.setCell ⟨s, 1, none⟩ (I n)).drew := (h.off.set_ (p := ⟨s, 1, none⟩) h.here (I n)).drew
  have hI1 : IterAt (wr.setCell ⟨s, 1, none⟩ (I n)).drew i b ck done := (hfar i (by have := h.s_lt; omega)).trans hI
  generalize (wr.setCell ⟨s, 1, none⟩ (I n)).drew = W1 at hH hM hB hO hI1 ⊢
  have hap : ∀ r ∈ l, ∀ g, r.v.ownBlock = some g → rx.v.ownBlock ≠ some g := by
    intro r hr g hgr hgx
    have h1 := h.fresh.own_in rx hrx g hgx
    rcases h.sep r hr g hgr with h2 | ⟨r2, h2, h3⟩
    · omega
    · rw [← h3] at hgr
      have ht : r2.t ≠ rx.t := fun e => hrt (by rw [← e]; exact List.mem_map_of_mem h2)
      obtain ⟨a, b, e⟩ := List.append_of_mem hrx
      have h4 := part_in e (h.dn_in r2 h2) ht
      have h5 := h.fresh.apart
      rw [e, List.pairwise_append] at h5
      rcases List.mem_append.1 h4 with h4 | h4
      · exact h5.2.2 r2 h4 rx (by simp) g hgr hgx
      · exact (List.pairwise_cons.1 h5.2.1).1 r2 h4 g hgx hgr
  obtain ⟨W, clock', hrun, hH2, hG, hz⟩ := hH.run_upd rx.d rx.c hd rx.v (hM.own rx hrx) (fun g hg => hF g (h.fresh.own_in rx hrx g hg)) hap
  refine ⟨W, clock', hrun, ?_, (hG.block i (Array.getElem?_eq_some_iff.1 hI1).1 (by intro e; injection e with e; have := h.mb_lt; omega)).trans hI1⟩
  have hput : (updR l rx.d rx.c rx.v clock).map Rec.abs = put (l.map Rec.abs) rx.d rx.c := updR_abs _ _ _ _ _
  refine ⟨fun r hr => ?_, by rw [List.map_append]; exact nodup_snoc h.dn_t hrt, ?_, ?_, hH2, ?_, ?_, h.s_lt, h.mb_lt, h.here, h.keys, ?_⟩
  · rcases List.mem_append.1 hr with hr | hr
    · exact h.dn_in r hr
    · rw [List.mem_singleton.1 hr]; exact hrx
  · exact hM.keep (fun j hj hi => hG.block j hj (by intro e; injection e with e; have := h.mb_lt; omega))
  · have hB2 := hB.grown hG (by intro e; injection e with e; exact hne e.symm)
    rw [hput]
    have := tot_put h.nodup rx.d rx.c
    have e : n = (tot (put (l.map Rec.abs) rx.d rx.c) : Int) := by omega
    rw [← e]; exact hB2
  · rw [hput, List.map_append, List.foldl_append, ← h.abs]
    simp only [List.map_cons, List.map_nil, List.foldl_cons, List.foldl_nil, mend, Rec.abs]
    split
    · rename_i c hc
      rw [if_neg (hg c hc)]
    · rfl
  · exact hO.grown hG (fun g e _ => by injection e with e; rw [← e]; exact h.held.here)
  · intro r hr g hgr
    unfold updR at hr
    have key : r ∈ l ∨ r.v = rx.v := by
      split at hr
      · obtain ⟨r', hr', rfl⟩ := List.mem_map.1 hr
        by_cases e : r'.d = rx.d
        · rw [if_pos e]; exact .inr rfl
        · rw [if_neg e]; exact .inl hr'
      · rcases List.mem_append.1 hr with hr | hr
        · exact .inl hr
        · rw [List.mem_singleton.1 hr]; exact .inr rfl
    rcases key with h1 | h1
    · rcases h.sep r h1 g hgr with h2 | ⟨r2, h2, h3⟩
      · exact .inl h2
      · exact .inr ⟨r2, by simp [h2], h3⟩
    · exact .inr ⟨rx, by simp, h1.symm⟩
theorem Lay.done (h : Lay F w s mb clk q lf m dn l clock wr) (hall : ∀ x ∈ lf.map Rec.ent, x.2.2 ∈ (dn.map Rec.ent).map (·.2.2)) :
    (dn.map Rec.abs).Perm (lf.map Rec.abs) ∧ Store F wr s q (tot ((dn.map Rec.abs).foldl mend m)) ((dn.map Rec.abs).foldl mend m) := by
  have ht : ∀ l : List Rec, (l.map Rec.ent).map (·.2.2) = l.map Rec.t := fun l => by rw [List.map_map]; rfl
  refine ⟨(all_perm dn lf h.dn_in h.dn_t (by have := h.fresh.map.borns; rwa [ht] at this) (fun r hr => ?_)).map _, mb, l, clock, ?_, h.here, h.held, h.abs⟩
  · have := hall _ (List.mem_map_of_mem (f := Rec.ent) hr)
    rwa [ht] at this
  · have := h.blk; rwa [h.abs] at this
end
end Go.Proofs.YtmjaclgbagogfaaDoor
