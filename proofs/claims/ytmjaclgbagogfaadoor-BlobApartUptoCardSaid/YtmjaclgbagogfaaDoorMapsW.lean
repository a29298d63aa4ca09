/- The operations on maps, in the walk's form; digests as keys. -/
import Derived.Test.YtmjaclgbagogfaaDoorMaps
import Derived.Test.YtmjaclgbagogfaaDoorShaE
namespace Go.Proofs.YtmjaclgbagogfaaDoor
open Go.RowKit Go.Maps Go.MapKept Go.Proofs.YtmjaclgbagogfaaDoor.Sha

section
variable {κ : Type} {P : Program} {kT T eT : TypeId} {ek : κ → Value} {ok : κ → Prop} {w : World} {b r clock : Nat} {l : List (Ent κ)}
variable {ops : Array Oper} {rest : List Oper} {o : Oper} {a : Act} {Q : Exit → Act → World → Prop} {next : Act → World → Prop}
theorem MapAt.drewN (h : MapAt w b ek ok l clock) (n : Nat) : MapAt (w.drewN n) b ek ok l clock := h.keep rfl
theorem MapAt.alloc (h : MapAt w b ek ok l clock) (o : Obj) : MapAt (w.alloc o) b ek ok l clock := h.keep (Below.heap_alloc w o b h.lt)
theorem MapAt.below {B : Nat} {w' : World} (h : MapAt w b ek ok l clock) (hb : Below B w w') (hB : b < B) : MapAt w' b ek ok l clock := h.keep (hb.block b hB)
theorem MapAt.grown {w' : World} {row : Option Nat} (h : MapAt w b ek ok l clock) (hg : w.grownBy w' row) (hne : some b ≠ row) : MapAt w' b ek ok l clock := h.keep (hg.block b h.lt hne)
theorem MapAt.far (h : MapAt w b ek ok l clock) {p : Addr} (hp : b ≠ p.block) (u : Value) : MapAt (w.setCell p u) b ek ok l clock := h.keep (Below.heap_setCell w p u b hp)
/-- 'range m'. -/
theorem wpList_rng (hg : o.guard = none) (m : Operand) (hop : o.op = Op.range T m) (hT : P.underlying T = some (.map kT eT)) (h : MapAt w b ek ok l clock) (hm : a.eval m = .map (some b))
    (hK : IterAt (w.alloc (.mapIter (some b) clock #[] clock)) w.heap.size b clock ([] : List (Ent κ)) → wpList P ops Q rest (a.put o.dst (.pointer (some ⟨w.heap.size, 0, none⟩))) (w.alloc (.mapIter (some b) clock #[] clock))) :
    wpList P ops Q (o :: rest) a w := by
  refine wpList_plain hg fun K' hK' => ?_
  have hrun := run_range (P := P) hT h
  unfold Oper.wp
  simp [execOp, hop, hm, hrun, Result.andThen]
  exact hK' _ _ (hK (heap_alloc_new w _))
/-- The step of a loop over a map. -/
theorem wpList_nxt (hg : o.guard = none) (it : Operand) (hop : o.op = Op.next it false) (h : MapAt w b ek ok l clock) {done : List (Ent κ)} (hi : IterAt w r b clock done) (hit : a.eval it = .pointer (some ⟨r, 0, none⟩))
    (hDone : (∀ x ∈ l, x.2.2 ∈ done.map (·.2.2)) → wpList P ops Q rest (a.put o.dst (.tuple #[.bool false])) w)
    (hMore : ∀ x w', x ∈ l → x.2.2 ∉ done.map (·.2.2) → IterAt w' r b clock (done ++ [x]) → w.grownBy w' (some r) → w'.heap.size = w.heap.size →
      (Instr.entry (.pointer (some ⟨r, 0, none⟩))).run P w' = .ok (.tuple #[ek x.1, x.2.1]) w' → wpList P ops Q rest (a.put o.dst (.tuple #[.bool true, ek x.1, x.2.1])) w')
    (hne : b ≠ r) : wpList P ops Q (o :: rest) a w := by
  refine wpList_plain hg fun K' hK' => ?_
  unfold Oper.wp
  rcases run_next (P := P) h hi o.type with ⟨h1, hrun⟩ | ⟨x, w', hx, hnew, hrun, hi', hgr, hsz⟩
  · simp [execOp, hop, hit, hrun, Result.andThen]
    exact hK' _ _ (hDone h1)
  · simp [execOp, hop, hit, hrun, Result.andThen]
    exact hK' _ _ (hMore x w' hx hnew hi' hgr hsz (run_entry (h.grown hgr (by simpa using hne)) hx hi'))
variable [DecidableEq κ]
/-- 'm[k] = v'. -/
theorem wpList_upd (hg : o.guard = none) (m x v : Operand) (hop : o.op = Op.mapUpdate T m x v) (K : KeysBy P kT ek ok) (hT : P.underlying T = some (.map kT eT)) (h : MapAt w b ek ok l clock) (k : κ) (hk : ok k) (val : Value)
    (hm : a.eval m = .map (some b)) (hx : a.eval x = ek k) (hv : a.eval v = val)
    (hK : ∀ w' clock', MapAt w' b ek ok (upd l k val clock) clock' → w.grownBy w' (some b) → w'.heap.size = w.heap.size → wpList P ops Q rest (a.put o.dst undef) w') : wpList P ops Q (o :: rest) a w := by
  refine wpList_plain hg fun K' hK' => ?_
  obtain ⟨w', clock', hrun, r1, r2, r3⟩ := run_upd K hT h k hk val
  unfold Oper.wp
  simp [execOp, hop, hm, hx, hv, hrun, Result.andThen]
  exact hK' _ _ (hK w' clock' r1 r2 r3)
/-- 'delete(m, k)'. -/
theorem wpList_del (hg : o.guard = none) (m x : Operand) (hop : o.op = Op.call { callee := Callee.builtin Builtin.delete, args := #[m, x], argTypes := #[T, kT] }) (K : KeysBy P kT ek ok) (hT : P.underlying T = some (.map kT eT)) (h : MapAt w b ek ok l clock) (k : κ) (hk : ok k)
    (hm : a.eval m = .map (some b)) (hx : a.eval x = ek k)
    (hK : ∀ w', MapAt w' b ek ok (del l k) clock → w.grownBy w' (some b) → w'.heap.size = w.heap.size → wpList P ops Q rest (a.put o.dst (.tuple #[])) w') : wpList P ops Q (o :: rest) a w := by
  refine wpList_plain hg fun K' hK' => ?_
  obtain ⟨w', hrun, r1, r2, r3⟩ := run_del K hT h k hk o.type
  unfold Oper.wp
  simp [execOp, hop, resolve, invoke, builtin, hm, hx, hrun, Result.andThen]
  exact hK' _ _ (hK w' r1 r2 r3)
end

/-! ### digests as keys -/
def IsD (d : List UInt8) : Prop := d.length = 32
theorem encD_inj (a b : List UInt8) (h : encD a = encD b) : a = b := by
  have hB : ∀ x y : UInt8, B x = B y → x = y := by
    intro x y h
    injection h with _ h
    exact UInt8.toNat.inj (by omega)
  unfold encD at h
  injection h with h
  have h2 : a.map B = b.map B := by injection h
  exact List.map_inj_right hB |>.1 h2
theorem Tryd.laidOut : laidOutB Tryd.prog = true := by kernel_rfl
theorem keyD_row : 29 < Tryd.prog.types.size := of_decide_eq_true (by kernel_rfl)
theorem keyD_type : Tryd.prog.keyType 29 = true := by kernel_rfl
theorem keyD_cells : Tryd.prog.cellsOf 29 = 32 := by kernel_rfl
theorem keyD_cell1 : Tryd.prog.cellsOf 5 = 1 := by kernel_rfl
theorem keyD_u8 : Tryd.prog.underlying 5 = some (.int .u8) := by kernel_rfl
theorem mapM_some {α β : Type} (f : α → Option β) (g : α → β) : ∀ (l : List α), (∀ x ∈ l, f x = some (g x)) → l.mapM f = some (l.map g)
  | [], _ => by simp
  | x :: l, h => by
    rw [List.mapM_cons, h x (by simp), mapM_some f g l (fun y hy => h y (by simp [hy]))]
    rfl
theorem keyD_lits (D : Nat) (cs : List Value) (d : List UInt8) (hc : cs = d.map B) (h : d.length = 32) : ∃ ls, Tryd.prog.keyLits (D + 2) 29 cs = some ls := by
  subst hc
  unfold Program.keyLits
  rw [Tryd.underlying29]
  simp only [List.length_map, keyD_cells, keyD_cell1, h, if_true]
  rw [mapM_some _ (fun i => [Lit.int .u8 ((d[i]?.getD 0).toNat : Int)])]
  · exact ⟨_, rfl⟩
  · intro i hi
    have hi : i < 32 := by simpa using hi
    have e : ((d.map B).drop (i * 1)).take 1 = [B (d[i]?.getD 0)] := by
      rw [Nat.mul_one, List.drop_eq_getElem_cons (by simpa [h] using hi)]
      simp [h, hi]
    rw [e]
    unfold Program.keyLits
    rw [keyD_u8]
    have hb := (d[i]?.getD 0).toNat_lt
    have hw : (Lit.int .u8 ((d[i]?.getD 0).toNat : Int)).wf = true := by
      simp only [Lit.wf, Bool.and_eq_true, decide_eq_true_eq]
      refine ⟨Int.natCast_nonneg _, ?_⟩
      show ((d[i]?.getD 0).toNat : Int) ≤ 255
      omega
    simp only [hw, and_self, if_true]
theorem keyD_lit (d : List UInt8) (h : IsD d) : ∃ l, keyOf Tryd.prog 29 (encD d) = some l := by
  have hu := Tryd.underlying29
  have hf : (encD d).formed Tryd.prog 29 = true := by
    have h' : d.length = 32 := h
    simp [Value.formed, encD, hu, keyD_cells, h']
  obtain ⟨D, hD⟩ : ∃ D, Tryd.prog.types.size + 1 = D + 2 := ⟨Tryd.prog.types.size - 1, by have := keyD_row; omega⟩
  obtain ⟨ls, hls⟩ := keyD_lits D (encD d).cells.toList d (by simp [encD, Value.cells]) h
  refine ⟨.string (keyBytes ls), ?_⟩
  unfold keyOf
  rw [hu, hD]
  simp only [keyD_type, hf, Bool.and_self, if_true, hls, Option.map_some]
theorem keyD : KeysBy Tryd.prog 29 encD IsD where
  keyed := Keyed.of_law (deep_law_laid Tryd.laidOut (m := 3) (by omega) keyD_row (by kernel_rfl) (by kernel_rfl))
  lit := keyD_lit
  inj := encD_inj
end Go.Proofs.YtmjaclgbagogfaaDoor
