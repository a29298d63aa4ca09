/- slices.Values over digests: its closure, in a fence. -/
import Derived.Test.YtmjaclgbagogfaaDoorItB
import Derived.Deep.MidRow
namespace Go.Proofs.YtmjaclgbagogfaaDoor
open Go.RowKit Go.Maps Go.MapKept Go.Proofs.YtmjaclgbagogfaaDoor.Sha Go.Shelf
attribute [local go_sem] Oper.semAt_some

theorem wpListIn_midrow {P : Program} {F : Fence} {nF : Nat} {w : World} {ops : Array Oper} {rest : List Oper} {o : Oper} {a : Act} {Q : Exit → Act → World → Prop}
    (hg : o.guard = none) (ty : TypeId) (x : Operand) (hop : o.op = .load ty x) (b k : Nat) (hx : a.eval x = .pointer (some ⟨b, k, none⟩)) (cs : List Value) (d : TypeDesc) (hc : w.rangeAt b k cs)
    (hu : P.underlying ty = some d) (hd : d.isRow = true) (hi : (P.info? ty).map (·.size) = some cs.length)
    (hK : wpListIn F nF P ops Q rest (a.put o.dst (.agg cs.toArray)) w) : wpListIn F nF P ops Q (o :: rest) a w := by
  refine wpListIn_plain hg fun K' hK' => ?_
  unfold Oper.wpIn
  refine ⟨by simp [Oper.about, hop], ?_⟩
  rw [Oper.semAt_plain F _ _ (by rw [hop]; intro c hc'; cases hc')]
  have hrun := run_loadAt_mid (P := P) w b k ty cs d hc hu hd hi
  simp [execOp, hop, hx, hrun, Result.andThen]
  exact hK' _ _ hK
/-- A slice of digests. -/
def Digs (n₀ : Nat) (w : World) (v : Value) (zs : List D32) : Prop :=
  (v = .slice none 0 0 ∧ zs = []) ∨ ∃ b cap, v = .slice (some ⟨b, 0, none⟩) zs.length cap ∧ zs.length ≤ cap ∧ b < n₀ ∧ ∀ k (h : k < zs.length), w.rangeAt b (k * 32) (zs[k].1.map B)
theorem Digs.below {n₀ : Nat} {w w' : World} {v : Value} {zs : List D32} (h : Digs n₀ w v zs) (hb : Below n₀ w w') : Digs n₀ w' v zs := by
  rcases h with h | ⟨b, cap, h1, h2, h3, h4⟩
  · exact .inl h
  · exact .inr ⟨b, cap, h1, h2, h3, fun k hk j u hu => (hb.cell (p := ⟨b, k * 32 + j, none⟩) h3).trans (h4 k hk j u hu)⟩
theorem digs_at (zs : List D32) (k : Nat) (h : k < zs.length) (j : Nat) (hj : j < 32) : (digs zs)[k * 32 + j]? = (zs[k].1.map B)[j]? := by
  induction zs generalizing k with
  | nil => simp at h
  | cons z zs ih =>
    have hz : (z.1.map B).length = 32 := by rw [List.length_map]; exact z.2
    rw [show digs (z :: zs) = z.1.map B ++ digs zs from rfl]
    rcases k with _ | k
    · rw [List.getElem?_append_left (by omega)]
      simp
    · rw [List.getElem?_append_right (by omega), show (k + 1) * 32 + j - (z.1.map B).length = k * 32 + j by omega]
      exact ih k (by simpa using h)
theorem digs_length (zs : List D32) : (digs zs).length = zs.length * 32 := by
  induction zs with
  | nil => rfl
  | cons z zs ih =>
    rw [show digs (z :: zs) = z.1.map B ++ digs zs from rfl, List.length_append, List.length_map, z.2, ih, List.length_cons]
    omega
theorem Digs.of_own {w : World} {base : Nat} {v : Value} {zs : List D32} (h : w.ownsRow base 29 32 v zs.length (digs zs)) : Digs w.heap.size w v zs := by
  rcases h.2 with ⟨h1, h2⟩ | ⟨g, cap, cur, h1, h2, h3, h4, h5, h6, h7⟩
  · exact .inl ⟨h1, List.eq_nil_of_length_eq_zero h2⟩
  · refine .inr ⟨g, cap, h1, h4, (Array.getElem?_eq_some_iff.1 h3).1, fun k hk j u hu => ?_⟩
    have hj : j < 32 := by
      have := (List.getElem?_eq_some_iff.1 hu).1
      rw [List.length_map, zs[k].2] at this; exact this
    have := h.cells (g := g) (by rw [h1]; rfl) (k * 32 + j) u (by rw [digs_at zs k hk j hj]; exact hu)
    rwa [add_none, Nat.zero_add] at this
set_option maxRecDepth 100000 in
set_option maxHeartbeats 2000000 in
/-- slices.Values's closure. -/
theorem values1_in {α : Type} (f : α → D32) (F : Fence) (n : Nat) (h49 : F.fn 49) (hro : F.round = none) (hn : 1 ≤ n) (l Bs n₀ b cap : Nat) (zs : List α) (hlen : zs.length ≤ 1099511627776) (hb : b < n₀) (J Jx : List α → World → Prop)
    (hJ : ∀ pre W W', J pre W → Below W.heap.size W W' → J pre W')
    (hY : ∀ pre x W, J pre W → pre.length < zs.length → YieldAt F (n - 1) Tryd.prog l #[encD (f x).1] W fun e W' =>
      (e = .returned (.bool true) ∧ J (pre ++ [x]) W' ∧ Below n₀ W W') ∨ (e = .returned (.bool false) ∧ Jx (pre ++ [x]) W'))
    (W : World) (hn₀ : n₀ ≤ W.heap.size) (hBs : W.cell? ⟨Bs, 0, none⟩ = some (.slice (some ⟨b, 0, none⟩) zs.length cap)) (hc : ∀ k (h : k < zs.length), W.rangeAt b (k * 32) ((f zs[k]).1.map B)) (h0 : J [] W) :
    CallsIn F n Tryd.prog 49 #[.func (.yield l) #[] #[], .pointer (some ⟨Bs, 0, none⟩)] W fun e W' => (∃ v, e = .returned v) ∧
      ((∃ ys, ys = zs ∧ J ys W') ∨ (∃ pre, pre <+: zs ∧ Jx pre W')) := by
  refine callsIn_of_wp Tryd.func49 rfl h49 ?_ hro
  simp only [Tryd.ntmps49, List.size_toArray, List.length_cons, List.length_nil, Nat.reduceAdd, Nat.reduceSub, Array.replicate_succ, Array.replicate_zero, List.push_toArray, List.append_toArray, List.nil_append, List.cons_append]
  gi_wp2
  gi_loopw [7] (fun i wr => ∃ k : Nat, k ≤ zs.length ∧ i = .int .i64 k ∧ J (zs.take k) wr ∧ Below n₀ W wr)
    (fun i _ => zs.length - (intOf i).toNat)
  case atStart => exact ⟨0, Nat.zero_le _, rfl, h0, Below.refl _ _⟩
  case round =>
    obtain ⟨k, hk, rfl, hJs, hnx⟩ := hrel
    by_cases hlt : k < zs.length
    · obtain ⟨cs, ed, hcs, ocs⟩ := encD_cells (f zs[k]).1 (f zs[k]).2
      have Ed := Lib.hid ed
      have hrow : wr.rangeAt b (k * 32) cs.toList := by
        have e1 : cs.toList = (f zs[k]).1.map B := by
          have h1 := Ed.out
          unfold encD at h1
          injection h1 with h1
          rw [← h1]
        rw [e1]
        exact fun j u hu => (hnx.cell (p := ⟨b, k * 32 + j, none⟩) hb).trans (hc k hlt j u hu)
      have hbs : wr.cell? ⟨Bs, 0, none⟩ = wr.cell? ⟨Bs, 0, none⟩ := rfl
      have hwr := hnx.size
      have hlen : cs.toList.length = 32 := by simpa using hcs
      have Hlen := Lib.hid hlen
      have HJ := Lib.hid hJ
      have HY := Lib.hid hY
      have Hc := Lib.hid hc
      have hk1 : IntKind.i64.wrap ((k : Int) + 1) = (k : Int) + 1 := IntWalk.i64_in _ (by omega)
      have htk : (zs.take k).length < zs.length := by simp; omega
      have Htk := Lib.hid htk
      clear ed hlen hJ hY hc hbs htk
      gi_wp2_with (first
        | (refine wpListIn_midrow rfl 29 (.tmp 9) rfl b (k * 32) rfl cs.toList _ hrow Tryd.underlying29 rfl (by rw [Hlen.out]; exact dig_info) ?_
           rw [Array.toArray_toList])
        | (refine wpListIn_setrow rfl 29 (.tmp 4) (.tmp 10) rfl wr.heap.size cs rfl rfl (Blk.new wr 29 (Array.replicate 32 (B 0))) (by rw [hcs]; exact dig_info) (by rw [hcs]; rfl) ocs ?_
           have hbf := box_facts wr cs
           change wpListIn _ _ _ _ _ _ _ ((wr.alloc (.cells (Array.replicate 32 (B 0)) 29)).setRow wr.heap.size cs)
           generalize (wr.alloc (.cells (Array.replicate 32 (B 0)) 29)).setRow wr.heap.size cs = W3 at hbf ⊢
           obtain ⟨hD3, hB3⟩ := hbf
           have hJ3 := HJ.out _ wr W3 hJs hB3
           obtain ⟨fn, tmps, assign, body, hy, hR⟩ := HY.out _ zs[k] W3 hJ3 Htk.out
           rw [Ed.out] at hy)
        | (refine wpListIn_row rfl 29 (.tmp 4) rfl wr.heap.size rfl hD3 Tryd.underlying29 rfl (by rw [hcs]; exact dig_info) ?_)
        | gi_in)
      refine hR.mono ?_
      rintro e W4 (⟨rfl, hJ4, hk4⟩ | ⟨rfl, hJx4⟩)
      · gi_wp2
        have hn4 := (hnx.trans (hB3.mono (by omega))).trans hk4
        refine ⟨⟨k + 1, by omega, by simp, by rw [List.take_succ_eq_append_getElem hlt]; exact hJ4, hn4⟩, by simp [intOf]; omega⟩
      · gi_wp2
        refine bodyPost_ret (results_none rfl _ _ _) rfl ?_
        exact ⟨⟨_, rfl⟩, .inr ⟨_, by rw [← List.take_succ_eq_append_getElem hlt]; exact List.take_prefix _ _, hJx4⟩⟩
    · obtain rfl : k = zs.length := by omega
      gi_wp2
      go_end0
      exact ⟨⟨_, rfl⟩, .inl ⟨_, List.take_length, hJs⟩⟩
set_option maxRecDepth 100000 in
set_option maxHeartbeats 1000000 in
theorem values1_nil (F : Fence) (n : Nat) (h49 : F.fn 49) (hro : F.round = none) (l Bs : Nat) {α : Type} (J : List α → World → Prop) (W : World) (hBs : W.cell? ⟨Bs, 0, none⟩ = some (.slice none 0 0)) (h0 : J [] W) :
    CallsIn F n Tryd.prog 49 #[.func (.yield l) #[] #[], .pointer (some ⟨Bs, 0, none⟩)] W fun e W' => (∃ v, e = .returned v) ∧ J [] W' := by
  refine callsIn_of_wp Tryd.func49 rfl h49 ?_ hro
  simp only [Tryd.ntmps49, List.size_toArray, List.length_cons, List.length_nil, Nat.reduceAdd, Nat.reduceSub, Array.replicate_succ, Array.replicate_zero, List.push_toArray, List.append_toArray, List.nil_append, List.cons_append]
  gi_wp2
  gi_loopw [7] (fun i wr => i = .int .i64 0 ∧ J [] wr) (fun _ _ => 0)
  case atStart => exact ⟨rfl, h0⟩
  case round =>
    obtain ⟨rfl, hJs⟩ := hrel
    gi_wp2
    go_end0
    exact ⟨⟨_, rfl⟩, hJs⟩
theorem values_stops {α : Type} (f : α → D32) (F : Fence) (n : Nat) (h49 : F.fn 49) (hro : F.round = none) (hn : 1 ≤ n) (Bs n₀ : Nat) (sv : Value) (zs : List α) (hlen : zs.length ≤ 1099511627776) (w : World) (hBs : Bs < w.heap.size) (hn₀ : n₀ ≤ w.heap.size)
    (hc : w.cell? ⟨Bs, 0, none⟩ = some sv) (hD : Digs n₀ w sv (zs.map f)) :
    SeqStopsK F n Tryd.prog 49 #[.pointer (some ⟨Bs, 0, none⟩)] (fun x : α => #[encD (f x).1]) (Below n₀) (fun ys => ys = zs) (fun pre => pre <+: zs) zs.length w := fun l J Jx W hW hJ _ hY h0 => by
  have hc' := (hW.cell (p := ⟨Bs, 0, none⟩) hBs).trans hc
  rcases hD.below (hW.mono hn₀) with ⟨rfl, e⟩ | ⟨b, cap, rfl, _, hb, hcs⟩
  · obtain rfl := List.map_eq_nil_iff.1 e
    exact (values1_nil F n h49 hro l Bs J W hc' h0).mono fun e W' ⟨he, hj⟩ => ⟨he, .inl ⟨_, rfl, hj⟩⟩
  · rw [List.length_map] at hc'
    exact values1_in f F n h49 hro hn l Bs n₀ b cap zs hlen hb J Jx (fun pre X Y hj hb => hJ pre X Y none hj (only_of_below hb none) (fun r e => by cases e)) hY W (Nat.le_trans hn₀ hW.size) hc'
      (fun k hk => by
        have := hcs k (by rw [List.length_map]; exact hk)
        rwa [List.getElem_map] at this) h0
end Go.Proofs.YtmjaclgbagogfaaDoor
