/- Arms for the odd operations of a region that draws: whole rows, lookups. -/
import Derived.Test.YtmjaclgbagogfaaDoorMapsW
import Derived.BigRegion
import Derived.Deep.RegionHeld
import Derived.Lib.QuietBelow
namespace Go.Proofs.YtmjaclgbagogfaaDoor
open Go.RowKit Go.Maps Go.MapKept

section
variable {P : Program} {W : World} {ops : Array Oper} {rest : List Oper} {o : Oper} {a : Act} {Q : Act → Prop}
theorem quiet_known {C : World → Prop} (v : Value) (hg : o.guard = none) (h : ∀ w, C w → (execOp a.eval o).run P w = .ok (.value v) w) (hK : wpQuiet P ops C Q rest (a.put o.dst v)) : wpQuiet P ops C Q (o :: rest) a := by
  refine wpQuiet_step fun K hK' => ?_
  rw [if_pos (by simp [Region.wanted, hg])]
  refine ⟨v, fun w hw => ?_, hK' _ hK⟩
  simp [Oper.quietAt, h w hw, Oper.quietUpon]
theorem exec_load_row (ty : TypeId) (x : Operand) (ho : o.op = .load ty x) (g : Nat) (hx : a.eval x = .pointer (some ⟨g, 0, none⟩)) {t : TypeId} {cs : Array Value} {d : TypeDesc} (h : Blk W g t cs)
    (hu : P.underlying ty = some d) (hd : (match d with | .struct _ | .array _ _ => true | _ => false) = true) (hi : (P.info? ty).map (·.size) = some cs.size) : (execOp a.eval o).run P W = .ok (.value (.agg cs)) W := by
  unfold execOp
  simp only [ho, hx, Instr.loadAt, Instr.sureAddr, Sem.run_bind, Sem.run_pure, Result.andThen_ok, run_loadVar_row W g t ty cs _ d h hu hd hi]
/-- A whole row is loaded in a region that draws. -/
theorem quiet_load_row (ty : TypeId) (x : Operand) (ho : o.op = .load ty x) (hg : o.guard = none) (g : Nat) (hx : a.eval x = .pointer (some ⟨g, 0, none⟩)) {t : TypeId} {cs : Array Value} {d : TypeDesc} (h : Blk W g t cs)
    (hu : P.underlying ty = some d) (hd : (match d with | .struct _ | .array _ _ => true | _ => false) = true) (hi : (P.info? ty).map (·.size) = some cs.size)
    (hK : wpQuiet P ops (fun w' => ∃ n, w' = W.drewN n) Q rest (a.put o.dst (.agg cs))) : wpQuiet P ops (fun w' => ∃ n, w' = W.drewN n) Q (o :: rest) a := by
  refine quiet_known (.agg cs) hg ?_ hK
  rintro w ⟨n, rfl⟩
  unfold execOp
  simp only [ho, hx, Instr.loadAt, Instr.sureAddr, Sem.run_bind, Sem.run_pure, Result.andThen_ok, run_loadVar_row (W.drewN n) g t ty cs _ d (h.drewN n) hu hd hi]
theorem quiet_load_row_below (ty : TypeId) (x : Operand) (ho : o.op = .load ty x) (hg : Region.wanted o (yielded ops a.tmps) = true) (g : Nat) (hx : a.eval x = .pointer (some ⟨g, 0, none⟩)) {t : TypeId} {cs : Array Value} {d : TypeDesc} (h : Blk W g t cs)
    (hu : P.underlying ty = some d) (hd : (match d with | .struct _ | .array _ _ => true | _ => false) = true) (hi : (P.info? ty).map (·.size) = some cs.size)
    (hK : wpQuiet P ops (fun w' => ∃ p : Regrown, w' = Sort.grow (redrawn W p.d) p.os) Q rest (a.put o.dst (.agg cs))) : wpQuiet P ops (fun w' => ∃ p : Regrown, w' = Sort.grow (redrawn W p.d) p.os) Q (o :: rest) a := by
  refine wpQuiet_step fun K hK' => ?_
  rw [if_pos hg]
  refine ⟨.agg cs, fun w hw => ?_, hK' _ hK⟩
  obtain ⟨p, rfl⟩ := hw
  simp [Oper.quietAt, exec_load_row ty x ho g hx (h.below (below_regrown W p.d p.os) h.lt) hu hd hi, Oper.quietUpon]
theorem quiet_look {κ : Type} [DecidableEq κ] {kT T eT : TypeId} {ek : κ → Value} {ok : κ → Prop} {b clock : Nat} {l : List (Ent κ)} (m x : Operand) (c : Bool) (ho : o.op = .lookup T m x c) (hg : o.guard = none)
    (K : KeysBy P kT ek ok) (hT : P.underlying T = some (.map kT eT)) {z : Value} (hz : ∀ w, (zeroValue eT).run P w = .ok z w) (h : MapAt W b ek ok l clock) (k : κ) (hk : ok k) (hm : a.eval m = .map (some b)) (hx : a.eval x = ek k)
    (hK : wpQuiet P ops (fun w' => ∃ n, w' = W.drewN n) Q rest (a.put o.dst (if c then .tuple #[(look l k).getD z, .bool (look l k).isSome] else (look l k).getD z))) : wpQuiet P ops (fun w' => ∃ n, w' = W.drewN n) Q (o :: rest) a := by
  refine quiet_known _ hg ?_ hK
  rintro w ⟨n, rfl⟩
  have hrun := run_look (P := P) K hT hz (h.drewN n) k hk c
  unfold execOp
  simp only [ho, hm, hx, hrun, Sem.run_bind, Sem.run_pure, Result.andThen_ok]
theorem still_known (v : Value) (hg : o.guard = none) (h : (execOp a.eval o).run P W = .ok (.value v) W) (hK : wpStill P ops W Q rest (a.put o.dst v)) : wpStill P ops W Q (o :: rest) a := by
  refine wpStill_step fun K hK' => ?_
  rw [if_pos (by simp [Region.wanted, hg])]
  simp only [Oper.still, h, Oper.stillUpon_value]
  exact hK' _ hK
theorem still_load_row (ty : TypeId) (x : Operand) (ho : o.op = .load ty x) (hg : o.guard = none) (g : Nat) (hx : a.eval x = .pointer (some ⟨g, 0, none⟩)) {t : TypeId} {cs : Array Value} {d : TypeDesc} (h : Blk W g t cs)
    (hu : P.underlying ty = some d) (hd : (match d with | .struct _ | .array _ _ => true | _ => false) = true) (hi : (P.info? ty).map (·.size) = some cs.size)
    (hK : wpStill P ops W Q rest (a.put o.dst (.agg cs))) : wpStill P ops W Q (o :: rest) a := by
  refine still_known (.agg cs) hg ?_ hK
  unfold execOp
  simp only [ho, hx, Instr.loadAt, Instr.sureAddr, Sem.run_bind, Sem.run_pure, Result.andThen_ok, run_loadVar_row W g t ty cs _ d h hu hd hi]
theorem still_look {κ : Type} [DecidableEq κ] {kT T eT : TypeId} {ek : κ → Value} {ok : κ → Prop} {b clock : Nat} {l : List (Ent κ)} (m x : Operand) (c : Bool) (ho : o.op = .lookup T m x c) (hg : o.guard = none)
    (K : KeysBy P kT ek ok) (hT : P.underlying T = some (.map kT eT)) {z : Value} (hz : ∀ w, (zeroValue eT).run P w = .ok z w) (h : MapAt W b ek ok l clock) (k : κ) (hk : ok k) (hm : a.eval m = .map (some b)) (hx : a.eval x = ek k)
    (hK : wpStill P ops W Q rest (a.put o.dst (if c then .tuple #[(look l k).getD z, .bool (look l k).isSome] else (look l k).getD z))) : wpStill P ops W Q (o :: rest) a := by
  refine still_known _ hg ?_ hK
  have hrun := run_look (P := P) K hT hz h k hk c
  unfold execOp
  simp only [ho, hm, hx, hrun, Sem.run_bind, Sem.run_pure, Result.andThen_ok]
end
section
variable {κ : Type} [DecidableEq κ] {P : Program} {W : World} {ops : Array Oper} {rest : List Oper} {o : Oper} {a : Act} {Q : Exit → Act → World → Prop} {kT T eT : TypeId} {ek : κ → Value} {ok : κ → Prop} {b clock : Nat} {l : List (Ent κ)}
theorem wpList_look (hg : o.guard = none) (m x : Operand) (c : Bool) (ho : o.op = .lookup T m x c)
    (K : KeysBy P kT ek ok) (hT : P.underlying T = some (.map kT eT)) {z : Value} (hz : ∀ w, (zeroValue eT).run P w = .ok z w) (h : MapAt W b ek ok l clock) (k : κ) (hk : ok k) (hm : a.eval m = .map (some b)) (hx : a.eval x = ek k)
    (hK : wpList P ops Q rest (a.put o.dst (if c then .tuple #[(look l k).getD z, .bool (look l k).isSome] else (look l k).getD z)) W) : wpList P ops Q (o :: rest) a W := by
  refine wpList_plain hg fun K' hK' => ?_
  have hrun := run_look (P := P) K hT hz h k hk c
  unfold Oper.wp execOp
  simp only [ho, hm, hx, hrun, Sem.run_bind, Sem.run_pure, Result.andThen_ok]
  exact hK' _ _ hK
end
end Go.Proofs.YtmjaclgbagogfaaDoor
