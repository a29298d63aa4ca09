/- slices.AppendSeq and slices.Collect over digests, against whatever iterator. -/
import Derived.Test.YtmjaclgbagogfaaDoorItA
import Derived.Great.BuildSlice
namespace Go.Proofs.YtmjaclgbagogfaaDoor
open Go.RowKit Go.Maps Go.MapKept Go.Proofs.YtmjaclgbagogfaaDoor.Sha Go.Shelf
attribute [local go_sem] Oper.semAt_some

section
variable {P : Program} {F : Fence} {nF : Nat} {w : World} {ops : Array Oper} {rest : List Oper} {o : Oper} {a : Act} {Q : Exit → Act → World → Prop}
/-- A slice literal of one element that is a whole row. -/
theorem wpListIn_onerow (hg : o.guard = none) (t e : TypeId) (x : Operand) (hop : o.op = .buildSlice t 1 #[(0, x)]) (cs : Array Value) (hx : a.eval x = .agg cs) (ie : TypeInfo) (z : Value) (s : Nat)
    (hu : P.underlying t = some (.slice e)) (hie : P.info? e = some ie) (hz : ie.zero = some z) (hs : ie.size = s) (h0 : 0 < s) (hs2 : s ≤ 2 ^ 24) (hc : cs.size = s) (hcc : (Value.agg cs).cells = cs)
    (hK : wpListIn F nF P ops Q rest (a.put o.dst (.slice (some ⟨w.heap.size, 0, none⟩) 1 1)) (w.alloc (.cells cs e))) : wpListIn F nF P ops Q (o :: rest) a w := by
  refine wpListIn_plain hg fun K' hK' => ?_
  unfold Oper.wpIn
  refine ⟨by simp [Oper.about, hop], ?_⟩
  rw [Oper.semAt_plain F _ _ (by rw [hop]; intro c hc'; cases hc')]
  have hf : Instr.fill (fun i => some (i * ie.size, ie.size)) ((Array.range (1 * ie.size)).map (z.cells[· % z.cells.size]!)) [(0, Value.agg cs)] = some cs := by
    rw [hs]
    have := Great.fill_whole (s := s) h0 [Value.agg cs] ((Array.range (1 * s)).map (z.cells[· % z.cells.size]!)) (fun v hv => by rw [List.mem_singleton.1 hv, hcc]; exact hc) (by simp)
    rw [show [(0, Value.agg cs)] = (([Value.agg cs].zipIdx 0).map fun x => (x.2, x.1)) from rfl, this]
    simp [hcc]
  have hrun := run_buildSlice (P := P) w t e 1 #[(0, Value.agg cs)] cs ie z hu hie hz (by rw [hs]; omega) (by rw [hs]; omega) hf
  simp [execOp, hop, hx, hrun, Result.andThen]
  exact hK' _ _ hK
/-- An append onto a row of the call's own. -/
theorem wpListIn_app (hg : o.guard = none) (s x : Operand) (t : TypeId) (hop : o.op = .call { callee := .builtin .append, args := #[s, x], argTypes := #[t, t] })
    (base : Nat) (e : TypeId) (i : TypeInfo) (z : Value) (size bytes : Nat) (ht : P.underlying t = some (.slice e)) (hi : P.info? e = some i) (hz : i.zero = some z)
    (hsize : i.size = size) (hby : i.bytes = bytes) (hzs : z.cells.size = size) (hsz : 0 < size)
    (v : Value) (n : Nat) (xs : List Value) (hs : a.eval s = v) (hown : w.ownsRow base e size v n xs)
    (B : Nat) (A : Option Addr) (m c : Nat) (news : List Value) (hx : a.eval x = .slice A m c) (hr : Reads w B size A m news) (h1 : ∀ u ∈ news, u.oneCell' = true)
    (h63 : n + m ≤ maxLen) (hbytes : (n + m) * bytes ≤ 140737488355328) (hbase : base ≤ w.heap.size)
    (h : ∀ v' w', w'.ownsRow base e size v' (n + m) (xs ++ news) → w.grownBy w' v.ownBlock → wpListIn F nF P ops Q rest (a.put o.dst v') w') : wpListIn F nF P ops Q (o :: rest) a w := by
  refine wpListIn_plain hg fun K' hK' => ?_
  obtain ⟨v', w', hrun, h2, h3, _⟩ := run_append_any (P := P) w base t o.type e i z size bytes ht hi hz hsize hby hzs hsz v n xs hown B A m c news hr h1 h63 hbytes hbase
  unfold Oper.wpIn
  refine ⟨by simp [Oper.about, hop, resolve, Target.leads, Sem.run_pure], ?_⟩
  rw [Oper.semAt_plain F _ _ (by rw [hop]; intro c hc'; cases hc')]
  simp [execOp, hop, resolve, invoke, builtin, hs, hx, hrun, Result.andThen]
  exact hK' _ _ (h v' w' h2 h3)
end
theorem blk_own {β : Type} (Bx : Nat) (t : TypeId) (cs : Array Value) : Go.Own (fun (_ : β) W => Blk W Bx t cs) := fun _ X Y row hs hg hrow =>
  Blk.grown hs hg (fun e' => by
    obtain ⟨o, ho, hc⟩ := hrow Bx e'.symm
    have hs' : X.heap[Bx]? = some (.cells cs t (0, 0)) := hs
    rw [hs'] at ho; cases ho; cases hc)
theorem dig_row : (Tryd.prog.info? 29).map (fun i => (i.zero, i.size, i.bytes)) = some (some (.agg (Array.replicate 32 (.int .u8 0))), 32, 32) := by kernel_rfl
/-- The cells of some digests. -/
def digs (l : List D32) : List Value := l.flatMap fun d => d.1.map B
theorem digs_snoc (l : List D32) (d : D32) : digs (l ++ [d]) = digs l ++ d.1.map B := by simp [digs]
theorem digs_one (d : D32) : ∀ u ∈ d.1.map B, u.oneCell' = true := bytes_one d.1
theorem reads_row (W : World) (l : List Value) (e : TypeId) (s : Nat) (hs : l.length = s) : Reads (W.alloc (.cells l.toArray e)) (W.alloc (.cells l.toArray e)).heap.size s (some ⟨W.heap.size, 0, none⟩) 1 l := by
  refine ⟨by omega, fun _ => ⟨_, rfl, by simp, fun j u hu => ?_⟩⟩
  rw [add_none, Nat.zero_add]
  rw [(Blk.new W e l.toArray).cell j]
  simpa using hu
theorem walks_of_others {W W' : World} (h : KeepsOthers W W') : KeepsWalks W W' := ⟨h.size, fun k o hk hw => h.same k o hk (by cases o <;> first | rfl | cases hw)⟩
theorem own_below {w w1 : World} {base n : Nat} {v : Value} {xs : List Value} {e : TypeId} {size : Nat} (h : w.ownsRow base e size v n xs) (hb : Below w.heap.size w w1) : w1.ownsRow base e size v n xs := own_keep h (fun g hg => hb.block g (own_lt h hg))
set_option maxRecDepth 100000 in
set_option maxHeartbeats 4000000 in
theorem appendSeq_in (F : Fence) (n : Nat) (h51 : F.fn 51) (hro : F.round = none) (hn : 3 ≤ n) (g : Nat) (lb : Array Value) (hFg : F.fn g) (eg : ∀ args w, (callFunc g args).run Tryd.prog w = .ok (.enter g args) w)
    (S Sp : List D32 → Prop) (N : Nat) (hN : N ≤ 1099511627776) (w : World) (hseq : SeqStopsK F (n - 1) Tryd.prog g lb (fun x : D32 => #[encD x.1]) KeepsWalks S Sp N w) :
    CallsIn F n Tryd.prog 51 #[.slice none 0 0, .func (.func g) #[] lb] w fun e w' => ∃ v ys, e = .returned v ∧ S ys ∧ w'.ownsRow w.heap.size 29 32 v ys.length (digs ys) ∧ Below w.heap.size w w' := by
  have h1 : 1 ≤ n := by omega
  refine callsIn_of_wp_marks Tryd.func51 rfl h51 ?_ hro
  simp only [Tryd.ntmps51, List.size_toArray, List.length_cons, List.length_nil, Nat.reduceAdd, Nat.reduceSub, Array.replicate_succ, Array.replicate_zero, List.push_toArray, List.append_toArray, List.nil_append, List.cons_append]
  gi_wp2
  have bS := Boxed.new w 75 (.slice none 0 0)
  have hB0 : Below w.heap.size w (w.alloc (.cells #[.slice none 0 0] 75)) := (Below.refl _ w).alloc (Nat.le_refl _) _
  have hsz : (w.alloc (.cells #[.slice none 0 0] 75)).heap.size = w.heap.size + 1 := by simp
  generalize w.alloc (.cells #[.slice none 0 0] 75) = W0 at bS hB0 hsz ⊢
  refine wpIn_rangeFunc_ownH hro h1 (gf := g) (lb := lb) rfl hFg eg hseq walksK_t walksK_b hB0 (fun _ => rfl)
    (fun pre W => (∃ v, Boxed W w.heap.size 75 v ∧ W.ownsRow w.heap.size 29 32 v pre.length (digs pre) ∧ True) ∧ Below w.heap.size w W)
    (fun _ _ _ => False)
    (OwnFrom.and (Go.Own.from (holdsRow_own w.heap.size w.heap.size 75 29 32 (fun pre : List D32 => pre.length) digs (fun _ _ => True)) _) (ownFrom_below (Nat.le_refl _) (by omega)))
    (fun _ _ _ _ _ hs _ _ => hs)
    ⟨⟨_, bS, ⟨rfl, .inl ⟨rfl, rfl⟩⟩, trivial⟩, hB0⟩
    (fun x a' W => ∃ Bx, w.heap.size < Bx ∧ Blk W Bx 29 (x.1.map B).toArray ∧ a' = { tmps := #[.slice none 0 0, .func (.func g) #[] lb, .pointer (some ⟨w.heap.size, 0, none⟩), undef, .slice none 0 0, .pointer (some ⟨Bx, 0, none⟩), .func (.func g) #[] lb, encD x.1, undef, undef, undef, undef, undef], defers := [] })
    (fun x a' _ X Y row hs hg hr => by
      obtain ⟨Bx, h1, h2, h3⟩ := hs
      exact ⟨Bx, h1, blk_own Bx _ _ () X Y row h2 hg (fun r e => (hr r e).2), h3⟩)
    ?assign ?body ?done ?stop
  case assign =>
    rintro l pre x W K ⟨⟨v, bX, hr, _⟩, hB⟩ hK
    have HK := Lib.hid hK
    have hcs : (x.1.map B).toArray.size = 32 := by simp [x.2]
    have Hcs := Lib.hid hcs
    have Hone := Lib.hid (dig_one x.1)
    clear hK hcs
    gi_wp2_with (first
      | (refine wpListIn_setrow rfl 29 (.tmp 5) (.tmp 7) rfl W.heap.size (x.1.map B).toArray rfl rfl (Blk.new W 29 (Array.replicate 32 (B 0))) (by rw [Hcs.out]; exact dig_info) (by rw [Hcs.out]; rfl) Hone.out ?_)
      | gi_in)
    have hbf := box_facts W (x.1.map B).toArray
    change K _ ((W.alloc (.cells (Array.replicate 32 (B 0)) 29)).setRow W.heap.size (x.1.map B).toArray)
    generalize (W.alloc (.cells (Array.replicate 32 (B 0)) 29)).setRow W.heap.size (x.1.map B).toArray = W3 at hbf ⊢
    obtain ⟨hD3, hB3⟩ := hbf
    exact HK.out _ _ (KeepsFrom.of_grownBy (only_of_below hB3 none) (fun j e => by cases e)) (KeepsWalks.of_grownBy (only_of_below hB3 none) (fun j o e => by cases e))
      ⟨⟨v, bX.kept (only_of_below hB3 none) (by simp), own_below hr hB3, trivial⟩, hB.trans (hB3.mono hB.size)⟩ ⟨W.heap.size, bX.lt, hD3, rfl⟩
  case body =>
    rintro l pre x a' W hl ⟨r, hr⟩ ⟨⟨v, bX, hown, _⟩, hB⟩ ⟨Bx, hBx, hX, rfl⟩ hlt
    obtain ⟨i0, hi, hzz⟩ := Option.map_eq_some_iff.1 dig_row
    injection hzz with hz0 hzz
    injection hzz with hz1 hz2
    have hcs : (x.1.map B).toArray.size = 32 := by simp [x.2]
    have hcl : (x.1.map B).length = 32 := by simp [x.2]
    have Hcs := Lib.hid hcs
    have Hcl := Lib.hid hcl
    have Hz0 := Lib.hid hz0
    have Hz1 := Lib.hid hz1
    have Hz2 := Lib.hid hz2
    have Hi := Lib.hid hi
    have Hown := Lib.hid hown
    have c1 := bX.cell
    have H63 : Hid (pre.length + 1 ≤ maxLen) := Lib.hid (by unfold maxLen; omega)
    have Hby : Hid ((pre.length + 1) * 32 ≤ 140737488355328) := Lib.hid (by omega)
    clear hcs hcl hz0 hz1 hz2 hi hown
    gi_wp2_with (first
      | (refine wpListIn_row rfl 29 (.tmp 5) rfl Bx rfl hX Tryd.underlying29 rfl (by rw [Hcs.out]; exact dig_info) ?_)
      | (refine wpListIn_onerow rfl 75 29 (.tmp 9) rfl (x.1.map B).toArray rfl i0 _ 32 Tryd.underlying75 Hi.out Hz0.out Hz1.out (by omega) (by decide) Hcs.out rfl ?_)
      | (refine wpListIn_app rfl (.tmp 8) (.tmp 10) 75 rfl w.heap.size 29 i0 _ 32 32 Tryd.underlying75 Hi.out Hz0.out Hz1.out Hz2.out rfl (by omega) v pre.length (digs pre) rfl (own_below Hown.out ((Below.refl _ W).alloc (Nat.le_refl _) _)) _ (some ⟨W.heap.size, 0, none⟩) 1 1 (x.1.map B) rfl (reads_row W (x.1.map B) 29 32 Hcl.out) (digs_one x) H63.out Hby.out (by have := hB.size; simp; omega) ?_
         intro v' w1 hown' hgrow
         obtain ⟨g', cap', rfl⟩ := ownsRow_succ hown'
         obtain ⟨hv1, hv2, hr2, hk2, hb2⟩ := bX.appended (by decide) Hown.out hB.size (Nat.le_refl _) hown' hgrow
         have hc1 := hv1.cell
         have hf1 := hv1.frozen)
      | gi_in)
    refine ⟨hk2.from _, walks_of_others hk2, ⟨_, hv2, ?_, trivial⟩, hB.trans hb2⟩
    rw [digs_snoc, List.length_append]
    exact hr2
  case done =>
    rintro D ys W hD hS ⟨⟨v, bX, hr, _⟩, hB⟩ hK
    have c1 := bX.cell
    gi_wp2
    refine ⟨by simp, .inl ⟨_, _, rfl, run_takeDeferred hK, ?_⟩⟩
    exact ⟨_, results_tmp rfl _ _ _, v, ys, rfl, hS, ownsRow_putObj hr _ hK rfl, hB.trans (belowK_b (w := w) (Nat.le_refl _) W D _ _ (by omega) hK rfl rfl)⟩
  case stop =>
    rintro D c pre W _ _ h _
    exact h.elim
end Go.Proofs.YtmjaclgbagogfaaDoor
