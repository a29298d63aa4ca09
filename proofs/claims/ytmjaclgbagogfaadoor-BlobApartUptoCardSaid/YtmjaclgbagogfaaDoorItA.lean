/- maps.Keys of a store's map, in a fence: the digests come, each once. -/
import Derived.Test.YtmjaclgbagogfaaDoorStoN
import Derived.RangeFuncNested
import Derived.RangeFuncBound
import Derived.RangeFuncCalls
import Derived.RangeFuncLeaves
import Derived.RangeFuncBox
import Derived.Shelf.Abstract
import Derived.Shelf.RegionOpen
import Derived.OwnWalkIn
import Derived.TacticsInMore
import Derived.LoopNIn
import Derived.LoopIn
import Derived.Maps.OwnIn
namespace Go.Proofs.YtmjaclgbagogfaaDoor
open Go.RowKit Go.Maps Go.MapKept Go.Proofs.YtmjaclgbagogfaaDoor.Sha Go.Shelf
attribute [local go_sem] Oper.semAt_some

/-- A digest. -/
abbrev D32 := { d : List UInt8 // d.length = 32 }
section
variable {κ : Type} {P : Program} {F : Fence} {nF : Nat} {kT T eT : TypeId} {ek : κ → Value} {ok : κ → Prop} {w : World} {b r clock : Nat} {l : List (Ent κ)}
variable {ops : Array Oper} {rest : List Oper} {o : Oper} {a : Act} {Q : Exit → Act → World → Prop}
theorem wpListIn_rng (hg : o.guard = none) (m : Operand) (hop : o.op = Op.range T m) (hT : P.underlying T = some (.map kT eT)) (h : MapAt w b ek ok l clock) (hm : a.eval m = .map (some b))
    (hK : IterAt (w.alloc (.mapIter (some b) clock #[] clock)) w.heap.size b clock ([] : List (Ent κ)) → wpListIn F nF P ops Q rest (a.put o.dst (.pointer (some ⟨w.heap.size, 0, none⟩))) (w.alloc (.mapIter (some b) clock #[] clock))) :
    wpListIn F nF P ops Q (o :: rest) a w := by
  refine wpListIn_plain hg fun K' hK' => ?_
  have hrun := run_range (P := P) hT h
  unfold Oper.wpIn
  refine ⟨by simp [Oper.about, hop], ?_⟩
  rw [Oper.semAt_plain F _ _ (by rw [hop]; intro c hc'; cases hc')]
  simp [execOp, hop, hm, hrun, Result.andThen]
  exact hK' _ _ (hK (heap_alloc_new w _))
theorem wpListIn_nxt (hg : o.guard = none) (it : Operand) (hop : o.op = Op.next it false) (h : MapAt w b ek ok l clock) {done : List (Ent κ)} (hi : IterAt w r b clock done) (hit : a.eval it = .pointer (some ⟨r, 0, none⟩))
    (hDone : (∀ x ∈ l, x.2.2 ∈ done.map (·.2.2)) → wpListIn F nF P ops Q rest (a.put o.dst (.tuple #[.bool false])) w)
    (hMore : ∀ x w', x ∈ l → x.2.2 ∉ done.map (·.2.2) → IterAt w' r b clock (done ++ [x]) → w.grownBy w' (some r) → w'.heap.size = w.heap.size →
      (Instr.entry (.pointer (some ⟨r, 0, none⟩))).run P w' = .ok (.tuple #[ek x.1, x.2.1]) w' → wpListIn F nF P ops Q rest (a.put o.dst (.tuple #[.bool true, ek x.1, x.2.1])) w')
    (hne : b ≠ r) : wpListIn F nF P ops Q (o :: rest) a w := by
  refine wpListIn_plain hg fun K' hK' => ?_
  unfold Oper.wpIn
  refine ⟨by simp [Oper.about, hop], ?_⟩
  rw [Oper.semAt_plain F _ _ (by rw [hop]; intro c hc'; cases hc')]
  rcases run_next (P := P) h hi o.type with ⟨h1, hrun⟩ | ⟨x, w', hx, hnew, hrun, hi', hgr, hsz⟩
  · simp [execOp, hop, hit, hrun, Result.andThen]
    exact hK' _ _ (hDone h1)
  · simp [execOp, hop, hit, hrun, Result.andThen]
    exact hK' _ _ (hMore x w' hx hnew hi' hgr hsz (run_entry (h.grown hgr (by simpa using hne)) hx hi'))
/-- A whole row is loaded. -/
theorem wpListIn_row (hg : o.guard = none) (ty : TypeId) (x : Operand) (hop : o.op = .load ty x) (g : Nat) (hx : a.eval x = .pointer (some ⟨g, 0, none⟩)) {t : TypeId} {cs : Array Value} {d : TypeDesc} (h : Blk w g t cs)
    (hu : P.underlying ty = some d) (hd : (match d with | .struct _ | .array _ _ => true | _ => false) = true) (hi : (P.info? ty).map (·.size) = some cs.size)
    (hK : wpListIn F nF P ops Q rest (a.put o.dst (.agg cs)) w) : wpListIn F nF P ops Q (o :: rest) a w := by
  refine wpListIn_plain hg fun K' hK' => ?_
  unfold Oper.wpIn
  refine ⟨by simp [Oper.about, hop], ?_⟩
  rw [Oper.semAt_plain F _ _ (by rw [hop]; intro c hc'; cases hc')]
  have hrun := run_loadVar_row (P := P) w g t ty cs _ d h hu hd hi
  simp [execOp, hop, hx, Instr.loadAt, Instr.sureAddr, hrun, Result.andThen]
  exact hK' _ _ hK
end
section
variable {P : Program} {F : Fence} {nF : Nat} {w : World} {ops : Array Oper} {rest : List Oper} {o : Oper} {a : Act} {Q : Exit → Act → World → Prop}
/-- A whole row is stored. -/
theorem wpListIn_setrow (hg : o.guard = none) (ty : TypeId) (x y : Operand) (hop : o.op = .store ty x y) (g : Nat) (cells : Array Value) (hx : a.eval x = .pointer (some ⟨g, 0, none⟩)) (hy : a.eval y = .agg cells)
    {t : TypeId} {old : Array Value} (h : Blk w g t old) (hi : (P.info? ty).map (·.size) = some cells.size) (hold : old.size = cells.size) (h1 : cells.all (·.oneCell') = true)
    (hK : wpListIn F nF P ops Q rest (a.put o.dst undef) (w.setRow g cells)) : wpListIn F nF P ops Q (o :: rest) a w := by
  refine wpListIn_plain hg fun K' hK' => ?_
  unfold Oper.wpIn
  refine ⟨by simp [Oper.about, hop], ?_⟩
  rw [Oper.semAt_plain F _ _ (by rw [hop]; intro c hc'; cases hc')]
  have hrun := run_storeVar_row (P := P) w g t ty old cells h hi hold h1
  simp [execOp, hop, hx, hy, Instr.storeAt, Instr.sureAddr, hrun, Result.andThen]
  exact hK' _ _ hK
end
theorem walk_map {w w' : World} {b clk : Nat} {l : List (Ent (List UInt8))} (h : MapAt w b encD IsD l clk) (hk : KeepsWalks w w') : MapAt w' b encD IsD l clk := h.keep ((hk.same b _ h.heap rfl).trans h.heap.symm)
theorem walk_iter {w w' : World} {r b clk : Nat} {dn : List (Ent (List UInt8))} (h : IterAt w r b clk dn) (hk : KeepsWalks w w') : IterAt w' r b clk dn := hk.same r _ h rfl
theorem ent_in {l a b : List (Ent (List UInt8))} {x y : Ent (List UInt8)} (e : l = a ++ x :: b) (h : y ∈ l) (ht : y.2.2 ≠ x.2.2) : y ∈ a ++ b := by
  subst e
  rcases List.mem_append.1 h with h | h
  · exact List.mem_append.2 (.inl h)
  · rcases List.mem_cons.1 h with h | h
    · exact absurd (by rw [h]) ht
    · exact List.mem_append.2 (.inr h)
theorem ent_perm : ∀ (dn l : List (Ent (List UInt8))), (∀ r ∈ dn, r ∈ l) → (dn.map (·.2.2)).Nodup → (l.map (·.2.2)).Nodup → (∀ r ∈ l, r.2.2 ∈ dn.map (·.2.2)) → dn.Perm l := by
  intro dn
  induction dn with
  | nil =>
    intro l _ _ _ h
    rcases l with _ | ⟨x, l⟩
    · exact .nil
    · exact absurd (h x (by simp)) (by simp)
  | cons x dn ih =>
    intro l h hn hl hall
    simp only [List.map_cons, List.nodup_cons] at hn
    obtain ⟨a, b, e⟩ := List.append_of_mem (h x (by simp))
    subst e
    have hx : ∀ r ∈ a ++ b, r.2.2 ≠ x.2.2 := by
      intro r hr et
      rw [List.map_append, List.map_cons, List.nodup_append] at hl
      rcases List.mem_append.1 hr with hr | hr
      · exact hl.2.2 r.2.2 (List.mem_map_of_mem hr) x.2.2 (by simp) et
      · have := hl.2.1
        rw [List.nodup_cons] at this
        exact this.1 (by rw [← et]; exact List.mem_map_of_mem hr)
    have hp := ih (a ++ b) (fun r hr => ent_in rfl (h r (by simp [hr])) (fun et => hn.1 (by rw [← et]; exact List.mem_map_of_mem hr))) hn.2
      (hl.sublist (by simp)) (fun r hr => by
        have h1 := hall r (by
          rcases List.mem_append.1 hr with hr | hr
          · exact List.mem_append.2 (.inl hr)
          · exact List.mem_append.2 (.inr (by simp [hr])))
        rw [List.map_cons, List.mem_cons] at h1
        exact h1.resolve_left (hx r hr))
    exact (hp.cons x).trans List.perm_middle.symm
theorem ent_some (dn l : List (Ent (List UInt8))) (h : ∀ r ∈ dn, r ∈ l) (hn : (dn.map (·.2.2)).Nodup) : dn.length ≤ l.length := by
  induction dn generalizing l with
  | nil => simp
  | cons x dn ih =>
    simp only [List.map_cons, List.nodup_cons] at hn
    obtain ⟨a, b, e⟩ := List.append_of_mem (h x (by simp))
    have := ih (a ++ b) (fun r hr => ent_in e (h r (by simp [hr])) (fun et => hn.1 (by rw [← et]; exact List.mem_map_of_mem hr))) hn.2
    subst e
    simp at this ⊢
    omega
set_option maxRecDepth 100000 in
set_option maxHeartbeats 2000000 in
/-- maps.Keys's closure: each key comes once. -/
theorem keys1_in (F : Fence) (n : Nat) (h47 : F.fn 47) (hro : F.round = none) (hn : 1 ≤ n) (l Bm mb clk : Nat) (le : List (Ent (List UInt8))) (J Jx : List D32 → World → Prop)
    (hY : ∀ pre x W, J pre W → pre.length < le.length → YieldAt F (n - 1) Tryd.prog l #[encD x.1] W fun e W' =>
      (e = .returned (.bool true) ∧ J (pre ++ [x]) W' ∧ KeepsWalks W W') ∨ (e = .returned (.bool false) ∧ Jx (pre ++ [x]) W'))
    (W : World) (hJ : AbidesFrom W.heap.size J) (hm : W.cell? ⟨Bm, 0, none⟩ = some (.map (some mb))) (hM : MapAt W mb encD IsD le clk) (h0 : J [] W) :
    CallsIn F n Tryd.prog 47 #[.func (.yield l) #[] #[], .pointer (some ⟨Bm, 0, none⟩)] W fun e W' => (∃ v, e = .returned v) ∧
      ((∃ ys : List D32, (ys.map (·.1)).Perm (le.map (·.1)) ∧ J ys W') ∨ (∃ pre, True ∧ Jx pre W')) := by
  refine callsIn_of_wp Tryd.func47 rfl h47 ?_ hro
  simp only [Tryd.ntmps47, List.size_toArray, List.length_cons, List.length_nil, Nat.reduceAdd, Nat.reduceSub, Array.replicate_succ, Array.replicate_zero, List.push_toArray, List.append_toArray, List.nil_append, List.cons_append]
  have hmb := hM.lt
  gi_wp2_with (first
    | (gi_at_range; refine wpListIn_rng rfl (.tmp 4) rfl Tryd.underlying56 hM rfl (fun hI => ?_))
    | gi_in)
  have hM1 := hM.alloc (.mapIter (some mb) clk #[] clk)
  have hJ1 : J [] (W.alloc (.mapIter (some mb) clk #[] clk)) := hJ [] W _ none h0 (World.grownBy_alloc W _ none) (fun r e => by cases e)
  have hB1 : Below W.heap.size W (W.alloc (.mapIter (some mb) clk #[] clk)) := (Below.refl _ W).alloc (Nat.le_refl _) _
  have HJ := Lib.hid hJ
  have HY := Lib.hid hY
  clear hJ hY
  generalize W.alloc (.mapIter (some mb) clk #[] clk) = W1 at hI hM1 hJ1 hB1 ⊢
  try simp only [Act.put, List.setIfInBounds_toArray, List.set_cons_zero, List.set_cons_succ]
  gi_loopw [3] (fun _ wr => ∃ (dn : List (Ent (List UInt8))) (ys : List D32), IterAt wr W.heap.size mb clk dn ∧ MapAt wr mb encD IsD le clk ∧ (∀ x ∈ dn, x ∈ le) ∧ (dn.map (·.2.2)).Nodup ∧ ys.map (·.1) = dn.map (·.1) ∧ W.heap.size ≤ wr.heap.size ∧ J ys wr)
    (fun _ wr => le.length - match wr.heap[W.heap.size]? with | some (.mapIter _ _ s _) => s.size | _ => 0)
  case atStart => exact ⟨[], [], hI, hM1, by simp, by simp, rfl, hB1.size, hJ1⟩
  case round =>
    clear hI hM1 hJ1 hB1
    obtain ⟨dn, ys, hI, hMr, hin, hnd, hys, hwr, hJs⟩ := hrel
    by_cases hall : ∀ x ∈ le, x.2.2 ∈ dn.map (·.2.2)
    · gi_wp2_with (first
        | (gi_at_next; refine wpListIn_nxt rfl (.tmp 5) rfl hMr hI rfl (fun _ => ?_) (fun x w' hx hn _ _ _ _ => absurd (hall x hx) hn) (by omega))
        | gi_in)
      go_end0
      refine ⟨⟨_, rfl⟩, .inl ⟨ys, ?_, hJs⟩⟩
      rw [hys]
      exact (ent_perm dn le hin hnd hM.borns hall).map _
    · gi_wp2_with (first
        | (gi_at_next; refine wpListIn_nxt rfl (.tmp 5) rfl hMr hI rfl (fun h => absurd h hall) (fun x W2 hx hnx hI2 hG2 hz2 hent => ?_) (by omega)
           have hdl : IsD x.1 := hMr.good _ hx
           obtain ⟨cs, ed, hcs, ocs⟩ := encD_cells x.1 hdl
           have Ed := Lib.hid ed
           rw [ed] at hent ⊢
           clear ed hz2
           have hMr2 := hMr.grown hG2 (by intro e; injection e with e; omega)
           have hsz2 := hG2.size
           have hJ2 := HJ.out ys wr W2 (some W.heap.size) hJs hG2 (fun r e => by cases e; exact ⟨Nat.le_refl _, _, hI, rfl⟩)
           have hlen : ys.length < le.length := by
             have h1 : ys.length = dn.length := by have := congrArg List.length hys; simpa using this
             have h2 := ent_some (dn ++ [x]) le (fun r hr => by
               rcases List.mem_append.1 hr with hr | hr
               · exact hin r hr
               · rw [List.mem_singleton.1 hr]; exact hx) (by rw [List.map_append]; exact nodup_snoc hnd hnx)
             rw [List.length_append] at h2
             simp only [List.length_cons, List.length_nil] at h2
             omega
           clear hMr hG2 hJs)
        | (refine wpListIn_setrow rfl 29 (.tmp 3) (.tmp 9) rfl W2.heap.size cs rfl rfl (Blk.new W2 29 (Array.replicate 32 (B 0))) (by rw [hcs]; exact dig_info) (by rw [hcs]; rfl) ocs ?_
           have hbf := box_facts W2 cs
           change wpListIn _ _ _ _ _ _ _ ((W2.alloc (.cells (Array.replicate 32 (B 0)) 29)).setRow W2.heap.size cs)
           generalize (W2.alloc (.cells (Array.replicate 32 (B 0)) 29)).setRow W2.heap.size cs = W3 at hbf ⊢
           obtain ⟨hD3, hB3⟩ := hbf
           have hM3 := hMr2.keep (hB3.block mb hMr2.lt)
           have hI3 : IterAt W3 W.heap.size mb clk (dn ++ [x]) := (hB3.block _ (Array.getElem?_eq_some_iff.1 hI2).1).trans hI2
           have hJ3 := HJ.out ys W2 W3 none hJ2 (only_of_below hB3 none) (fun r e => by cases e)
           obtain ⟨fn, tmps, assign, body, hy, hR⟩ := HY.out ys ⟨x.1, hdl⟩ W3 hJ3 hlen
           dsimp only at hy
           rw [Ed.out] at hy
           have hsz3 := hB3.size
           clear hMr2 hI2 hJ2 hent hB3)
        | (refine wpListIn_row rfl 29 (.tmp 3) rfl W2.heap.size rfl hD3 Tryd.underlying29 rfl (by rw [hcs]; exact dig_info) ?_)
        | gi_in)
      refine hR.mono ?_
      rintro e W4 (⟨rfl, hJ4, hk4⟩ | ⟨rfl, hJx4⟩)
      · gi_wp2
        have hM4 := walk_map hM3 hk4
        have hI4 := walk_iter hI3 hk4
        have hI0 := hI
        have hsz4 := hk4.size
        refine ⟨⟨dn ++ [x], ys ++ [⟨x.1, hdl⟩], hI4, hM4, fun r hr => ?_, by rw [List.map_append]; exact nodup_snoc hnd hnx, by rw [List.map_append, List.map_append, hys]; rfl, by omega, hJ4⟩, ?_⟩
        · rcases List.mem_append.1 hr with hr | hr
          · exact hin r hr
          · rw [List.mem_singleton.1 hr]; exact hx
        · unfold IterAt at hI4 hI0
          rw [hI4, hI0]
          have h1 : ys.length = dn.length := by have := congrArg List.length hys; simpa using this
          simp only [List.size_toArray, List.length_map, List.length_append, List.length_cons, List.length_nil]
          omega
      · gi_wp2
        refine bodyPost_ret (results_none rfl _ _ _) rfl ?_
        exact ⟨⟨_, rfl⟩, .inr ⟨_, trivial, hJx4⟩⟩
end Go.Proofs.YtmjaclgbagogfaaDoor
