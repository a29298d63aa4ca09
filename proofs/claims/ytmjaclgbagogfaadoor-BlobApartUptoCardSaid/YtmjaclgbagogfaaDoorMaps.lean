/- Maps in memory, entry by entry: what each operation on a map does. -/
import Derived.Test.YtmjaclgbagogfaaDoorMem
import Derived.Maps.Keyed
import Derived.Maps.RangeWalk
import Derived.Maps.OwnOps
import Derived.DeepKeys4
namespace Go.Proofs.YtmjaclgbagogfaaDoor
open Go.RowKit Go.Maps Go.MapKept
open Go.ChangeMaps (setBlock heap_setBlock_same heap_setBlock_other)

section
variable {κ : Type} {P : Program} {kT : TypeId} {ek : κ → Value} {ok : κ → Prop}

/-- The keys of a type, written by 'ek'. -/
structure KeysBy (P : Program) (kT : TypeId) (ek : κ → Value) (ok : κ → Prop) : Prop where
  keyed : Keyed P kT
  lit : ∀ k, ok k → ∃ l, keyOf P kT (ek k) = some l
  inj : ∀ a b, ek a = ek b → a = b

abbrev Ent (κ : Type) := κ × Value × Nat
def ent (ek : κ → Value) (x : Ent κ) : MapEntry := { key := ek x.1, val := x.2.1, born := x.2.2 }
def ents (ek : κ → Value) (l : List (Ent κ)) : Array MapEntry := (l.map (ent ek)).toArray
/-- Block b is a map of the entries l. -/
structure MapAt (w : World) (b : Nat) (ek : κ → Value) (ok : κ → Prop) (l : List (Ent κ)) (clock : Nat) : Prop where
  heap : w.heap[b]? = some (.map (ents ek l) clock)
  good : ∀ x ∈ l, ok x.1
  keys : (l.map (·.1)).Nodup
  borns : (l.map (·.2.2)).Nodup
  young : ∀ x ∈ l, x.2.2 < clock

variable {w : World} {b clock : Nat} {l : List (Ent κ)}
theorem MapAt.lt (h : MapAt w b ek ok l clock) : b < w.heap.size := (Array.getElem?_eq_some_iff.1 h.heap).1
theorem MapAt.keep {w' : World} (h : MapAt w b ek ok l clock) (hk : w'.heap[b]? = w.heap[b]?) : MapAt w' b ek ok l clock := { h with heap := hk.trans h.heap }
theorem MapAt.made (w : World) (ek : κ → Value) (ok : κ → Prop) : MapAt (w.alloc (.map #[] 0)) w.heap.size ek ok [] 0 :=
  ⟨heap_alloc_new w _, by simp, by simp, by simp, by simp⟩

theorem MapAt.sub {w' : World} {l' : List (Ent κ)} (h : MapAt w b ek ok l clock) (hs : l'.Sublist l) (hh : w'.heap[b]? = some (.map (ents ek l') clock)) : MapAt w' b ek ok l' clock :=
  ⟨hh, fun x hx => h.good x (hs.subset hx), h.keys.sublist (hs.map _), h.borns.sublist (hs.map _), fun x hx => h.young x (hs.subset hx)⟩
theorem run_find (K : KeysBy P kT ek ok) (hg : ∀ x ∈ l, ok x.1) (k : κ) (hk : ok k) (w : World) :
    ((Instr.findKey kT (ek k) (ents ek l).toList).run P w = .ok none w ∧ ∀ x ∈ l, x.1 ≠ k) ∨
    ∃ j x, (Instr.findKey kT (ek k) (ents ek l).toList).run P w = .ok (some (j, x.2.1)) w ∧ l[j]? = some x ∧ x.1 = k := by
  obtain ⟨lk, hlk⟩ := K.lit k hk
  rcases K.keyed.find w hlk (ents ek l).toList (fun e he => by
    simp only [ents, List.mem_map] at he
    obtain ⟨x, hx, rfl⟩ := he
    exact K.lit x.1 (hg x hx)) with ⟨h1, h2⟩ | ⟨j, e, h1, h2, h3⟩
  · exact .inl ⟨h1, fun x hx e => h2 (ent ek x) (by simp only [ents]; exact List.mem_map_of_mem hx) (by rw [← e]; rfl)⟩
  · simp only [ents, List.getElem?_map] at h2
    obtain ⟨x, hx, rfl⟩ := Option.map_eq_some_iff.1 h2
    exact .inr ⟨j, x, h1, hx, K.inj _ _ h3⟩
theorem run_check (K : KeysBy P kT ek ok) (k : κ) (hk : ok k) (w : World) (em : Bool) : (Instr.checkKey em 10000 kT (ek k)).run P w = .ok () w := by
  obtain ⟨lk, hlk⟩ := K.lit k hk
  exact K.keyed.check w em hlk
variable [DecidableEq κ]
/-- What the map has at a key. -/
def look (l : List (Ent κ)) (k : κ) : Option Value := (l.find? fun x => decide (x.1 = k)).map (·.2.1)
theorem look_none (l : List (Ent κ)) (k : κ) : look l k = none ↔ ∀ x ∈ l, x.1 ≠ k := by
  simp [look]
theorem find_at {l : List (Ent κ)} (hn : (l.map (·.1)).Nodup) {j : Nat} {x : Ent κ} (hx : l[j]? = some x) : l.find? (fun y => decide (y.1 = x.1)) = some x := by
  induction l generalizing j with
  | nil => simp at hx
  | cons y l ih =>
    simp only [List.map_cons, List.nodup_cons] at hn
    cases j with
    | zero => simp only [List.getElem?_cons_zero, Option.some.injEq] at hx; subst hx; simp
    | succ j =>
      simp only [List.getElem?_cons_succ] at hx
      have hm : x.1 ∈ l.map (·.1) := List.mem_map.2 ⟨x, List.mem_of_getElem? hx, rfl⟩
      have hne : y.1 ≠ x.1 := fun e => hn.1 (e ▸ hm)
      rw [List.find?_cons_of_neg (by simp [hne])]
      exact ih hn.2 hx
variable {T eT : TypeId}
/-- 'm[k]', 'v, ok := m[k]'. -/
theorem run_look (K : KeysBy P kT ek ok) (hT : P.underlying T = some (.map kT eT)) {z : Value} (hz : ∀ w, (zeroValue eT).run P w = .ok z w) (h : MapAt w b ek ok l clock) (k : κ) (hk : ok k) (c : Bool) :
    (Instr.lookup T (.map (some b)) (ek k) c).run P w = .ok (if c then .tuple #[(look l k).getD z, .bool (look l k).isSome] else (look l k).getD z) w := by
  rcases run_find K h.good k hk w with ⟨h1, h2⟩ | ⟨j, x, h1, h2, rfl⟩
  · have hl : look l k = none := (look_none l k).2 h2
    simp [Instr.lookup, run_underlying hT, MapKept.run_getObj_map h.heap, run_check K k hk, h1, hz, Result.andThen, hl]
  · have hl : look l x.1 = some x.2.1 := by rw [look, find_at h.keys h2]; rfl
    simp [Instr.lookup, run_underlying hT, MapKept.run_getObj_map h.heap, run_check K x.1 hk, h1, Result.andThen, hl]
/-- The entries behind 'm[k] = v'. -/
def upd (l : List (Ent κ)) (k : κ) (v : Value) (clock : Nat) : List (Ent κ) :=
  if (look l k).isSome then l.map (fun x => if x.1 = k then (k, v, x.2.2) else x) else l ++ [(k, v, clock)]
theorem map_upd_keys (l : List (Ent κ)) (k : κ) (v : Value) : (l.map (fun x => if x.1 = k then (k, v, x.2.2) else x)).map (·.1) = l.map (·.1) := by
  rw [List.map_map]
  apply List.map_congr_left
  intro x _
  by_cases e : x.1 = k <;> simp [e]
theorem map_upd_borns (l : List (Ent κ)) (k : κ) (v : Value) : (l.map (fun x => if x.1 = k then (k, v, x.2.2) else x)).map (·.2.2) = l.map (·.2.2) := by
  rw [List.map_map]
  apply List.map_congr_left
  intro x _
  by_cases e : x.1 = k <;> simp [e]
theorem modify_upd (hn : (l.map (·.1)).Nodup) {j : Nat} {x : Ent κ} (hx : l[j]? = some x) (v : Value) :
    (ents ek l).modify j (fun e => { e with key := ek x.1, val := v }) = ents ek (l.map (fun y => if y.1 = x.1 then (x.1, v, y.2.2) else y)) := by
  apply Array.ext_getElem?
  intro i
  rw [Array.getElem?_modify]
  simp only [ents, List.getElem?_toArray, List.getElem?_map]
  by_cases e : j = i
  · subst e
    rw [if_pos rfl, hx]
    simp [ent]
  · rw [if_neg e]
    cases hi : l[i]? with
    | none => simp
    | some y =>
      have hne : y.1 ≠ x.1 := by
        intro he
        have hjl := (List.getElem?_eq_some_iff.1 hx).1
        have hil := (List.getElem?_eq_some_iff.1 hi).1
        have h1 := (List.getElem?_eq_some_iff.1 hx).2
        have h2 := (List.getElem?_eq_some_iff.1 hi).2
        rw [List.nodup_iff_pairwise_ne, List.pairwise_map, List.pairwise_iff_getElem] at hn
        rcases Nat.lt_or_gt_of_ne e with h | h
        · exact hn j i hjl hil h (by rw [h1, h2, he])
        · exact hn i j hil hjl h (by rw [h1, h2, he])
      simp [hne]
theorem run_upd (K : KeysBy P kT ek ok) (hT : P.underlying T = some (.map kT eT)) (h : MapAt w b ek ok l clock) (k : κ) (hk : ok k) (v : Value) :
    ∃ w' clock', (Instr.mapUpdate T (.map (some b)) (ek k) v).run P w = .ok () w' ∧ MapAt w' b ek ok (upd l k v clock) clock' ∧ w.grownBy w' (some b) ∧ w'.heap.size = w.heap.size := by
  rcases run_find K h.good k hk w with ⟨h1, h2⟩ | ⟨j, x, h1, h2, rfl⟩
  · have hl : look l k = none := (look_none l k).2 h2
    refine ⟨setBlock w b (.map (ents ek (l ++ [(k, v, clock)])) (clock + 1)), clock + 1, ?_, ?_, ⟨rfl, rfl, rfl, by simp [setBlock], fun i _ hi => heap_setBlock_other h.heap _ (fun e => hi (by rw [e]))⟩, by simp [setBlock]⟩
    · have e1 : (ents ek l).push { key := ek k, val := v, born := clock } = ents ek (l ++ [(k, v, clock)]) := by simp [ents, ent]
      simp [Instr.mapUpdate, run_underlying hT, MapKept.run_getObj_map h.heap, run_check K k hk, h1, MapKept.run_setObj_map _ h.heap, Result.andThen, setBlock, e1]
    · have eu : upd l k v clock = l ++ [(k, v, clock)] := by simp [upd, hl]
      rw [eu]
      refine ⟨heap_setBlock_same h.heap _, ?_, ?_, ?_, ?_⟩
      · intro x hx
        rcases List.mem_append.1 hx with hx | hx
        · exact h.good x hx
        · rw [List.mem_singleton.1 hx]; exact hk
      · rw [List.map_append, List.nodup_append]
        refine ⟨h.keys, by simp, ?_⟩
        intro a ha c hc e
        simp only [List.map_cons, List.map_nil, List.mem_singleton] at hc
        obtain ⟨x, hx, rfl⟩ := List.mem_map.1 ha
        exact h2 x hx (e.trans hc)
      · rw [List.map_append, List.nodup_append]
        refine ⟨h.borns, by simp, ?_⟩
        intro a ha c hc e
        simp only [List.map_cons, List.map_nil, List.mem_singleton] at hc
        obtain ⟨x, hx, rfl⟩ := List.mem_map.1 ha
        have := h.young x hx
        omega
      · intro x hx
        rcases List.mem_append.1 hx with hx | hx
        · have := h.young x hx; omega
        · rw [List.mem_singleton.1 hx]; simp
  · have hl : look l x.1 = some x.2.1 := by rw [look, find_at h.keys h2]; rfl
    obtain ⟨lk, hlk⟩ := K.lit x.1 hk
    have hj : (ents ek l)[j]? = some (ent ek x) := by simp [ents, h2]
    have eu : upd l x.1 v clock = l.map (fun y => if y.1 = x.1 then (x.1, v, y.2.2) else y) := by simp [upd, hl]
    refine ⟨setBlock w b (.map (ents ek (upd l x.1 v clock)) clock), clock, ?_, ?_, ⟨rfl, rfl, rfl, by simp [setBlock], fun i _ hi => heap_setBlock_other h.heap _ (fun e => hi (by rw [e]))⟩, by simp [setBlock]⟩
    · rw [eu, ← modify_upd h.keys h2 v]
      simp [Instr.mapUpdate, run_underlying hT, MapKept.run_getObj_map h.heap, run_check K x.1 hk, h1, hj, ent, K.keyed.stays w hlk, MapKept.run_setObj_map _ h.heap, Result.andThen, setBlock]
    · rw [eu]
      refine ⟨heap_setBlock_same h.heap _, ?_, by rw [map_upd_keys]; exact h.keys, by rw [map_upd_borns]; exact h.borns, ?_⟩
      · intro y hy
        obtain ⟨y', hy', rfl⟩ := List.mem_map.1 hy
        by_cases e : y'.1 = x.1
        · simp only [e, if_true]; exact hk
        · simp only [e, if_false]; exact h.good y' hy'
      · intro y hy
        obtain ⟨y', hy', rfl⟩ := List.mem_map.1 hy
        have := h.young y' hy'
        by_cases e : y'.1 = x.1 <;> simp [e] <;> exact this
/-- The entries behind 'delete(m, k)'. -/
def del (l : List (Ent κ)) (k : κ) : List (Ent κ) := l.filter fun x => decide (x.1 ≠ k)
theorem del_none {l : List (Ent κ)} {k : κ} (h : ∀ x ∈ l, x.1 ≠ k) : del l k = l := List.filter_eq_self.2 fun x hx => by simpa using h x hx
theorem map_erase {α β : Type} (f : α → β) : ∀ (l : List α) (j : Nat), (l.map f).eraseIdx j = (l.eraseIdx j).map f
  | [], _ => rfl
  | _ :: _, 0 => rfl
  | x :: l, j + 1 => by simp [map_erase f l j]
theorem del_at {l : List (Ent κ)} (hn : (l.map (·.1)).Nodup) {j : Nat} {x : Ent κ} (hx : l[j]? = some x) : l.eraseIdx j = del l x.1 := by
  induction l generalizing j with
  | nil => simp at hx
  | cons y l ih =>
    simp only [List.map_cons, List.nodup_cons] at hn
    cases j with
    | zero =>
      simp only [List.getElem?_cons_zero, Option.some.injEq] at hx
      subst hx
      rw [List.eraseIdx_cons_zero, del, List.filter_cons_of_neg (by simp)]
      exact (del_none fun z hz e => hn.1 (by rw [← e]; exact List.mem_map.2 ⟨z, hz, rfl⟩)).symm
    | succ j =>
      simp only [List.getElem?_cons_succ] at hx
      have hm : x.1 ∈ l.map (·.1) := List.mem_map.2 ⟨x, List.mem_of_getElem? hx, rfl⟩
      have hne : y.1 ≠ x.1 := fun e => hn.1 (e ▸ hm)
      rw [List.eraseIdx_cons_succ, del, List.filter_cons_of_pos (by simp [hne]), ih hn.2 hx]
      rfl
theorem run_del (K : KeysBy P kT ek ok) (hT : P.underlying T = some (.map kT eT)) (h : MapAt w b ek ok l clock) (k : κ) (hk : ok k) (ty : TypeId) :
    ∃ w', (Builtin.delete_ #[T, kT] ty #[.map (some b), ek k]).run P w = .ok (.tuple #[]) w' ∧ MapAt w' b ek ok (del l k) clock ∧ w.grownBy w' (some b) ∧ w'.heap.size = w.heap.size := by
  refine ⟨setBlock w b (.map (ents ek (del l k)) clock), ?_, h.sub List.filter_sublist (heap_setBlock_same h.heap _), ⟨rfl, rfl, rfl, by simp [setBlock], fun i _ hi => heap_setBlock_other h.heap _ (fun e => hi (by rw [e]))⟩, by simp [setBlock]⟩
  rcases run_find K h.good k hk w with ⟨h1, h2⟩ | ⟨j, x, h1, h2, rfl⟩
  · simp [Builtin.delete_, run_underlying hT, MapKept.run_getObj_map h.heap, run_check K k hk, h1, MapKept.run_setObj_map _ h.heap, Result.andThen, setBlock, del_none h2]
  · have hj : j < (ents ek l).size := by simpa [ents] using (List.getElem?_eq_some_iff.1 h2).1
    have e1 : (ents ek l).eraseIdxIfInBounds j = ents ek (del l x.1) := by
      rw [← del_at h.keys h2]
      unfold Array.eraseIdxIfInBounds
      rw [dif_pos hj]
      apply Array.toList_inj.1
      simp [ents, map_erase]
    simp [Builtin.delete_, run_underlying hT, MapKept.run_getObj_map h.heap, run_check K x.1 hk, h1, MapKept.run_setObj_map _ h.heap, Result.andThen, setBlock, e1]
end

section
variable {κ : Type} {P : Program} {kT : TypeId} {ek : κ → Value} {ok : κ → Prop} {w : World} {b r clock : Nat} {l : List (Ent κ)} {T eT : TypeId}
/-- An iterator over the map b, whose entries 'done' have come. -/
def IterAt (w : World) (r b clock : Nat) (done : List (Ent κ)) : Prop := w.heap[r]? = some (.mapIter (some b) clock (done.map (·.2.2)).toArray clock)
theorem run_len (hT : P.underlying T = some (.map kT eT)) (h : MapAt w b ek ok l clock) (ty : TypeId) :
    (Builtin.len_ #[T] ty #[.map (some b)]).run P w = .ok (goInt l.length) w := by
  simp [Builtin.len_, run_underlying hT, MapKept.run_getObj_map h.heap, Result.andThen, ents]
theorem run_range (hT : P.underlying T = some (.map kT eT)) (h : MapAt w b ek ok l clock) :
    (Instr.range T (.map (some b))).run P w = .ok (.pointer (some ⟨w.heap.size, 0, none⟩)) (w.alloc (.mapIter (some b) clock #[] clock)) := by
  simp [Instr.range, run_underlying hT, MapKept.run_getObj_map h.heap, Result.andThen]
theorem run_getObj_iter {m : Option Nat} {a c : Nat} {s : Array Nat} (h : w.heap[r]? = some (.mapIter m a s c)) : (getObj r).run P w = .ok (.mapIter m a s c) w := by
  simp [getObj, Sem.run, h]
theorem run_setObj_iter {m : Option Nat} {a c : Nat} {s : Array Nat} (o : Obj) (h : w.heap[r]? = some (.mapIter m a s c)) : (setObj r o).run P w = .ok () { w with heap := w.heap.setIfInBounds r o } := by
  simp [setObj, Sem.run, h]
theorem run_choose (n : Nat) (hn : 0 < n) (w : World) : ∃ i w', (choose (.mapNext n)).run P w = .ok i w' ∧ i < n ∧ w'.heap = w.heap ∧ w'.os = w.os ∧ w'.tape = w.tape ∧ w'.output = w.output := by
  unfold choose
  simp only [Sem.run]
  by_cases hf : (Question.mapNext n).forced = true
  · rw [if_pos hf]; exact ⟨0, w, rfl, hn, rfl, rfl, rfl, rfl⟩
  · rw [if_neg hf]; exact ⟨_, _, rfl, by simp only [Question.cut]; exact Nat.mod_lt _ hn, rfl, rfl, rfl, rfl⟩
theorem run_next (h : MapAt w b ek ok l clock) {done : List (Ent κ)} (hi : IterAt w r b clock done) (ty : TypeId) :
    ((∀ x ∈ l, x.2.2 ∈ done.map (·.2.2)) ∧ (Instr.next (.pointer (some ⟨r, 0, none⟩)) false ty).run P w = .ok (.tuple #[.bool false]) w) ∨
    ∃ x w', x ∈ l ∧ x.2.2 ∉ done.map (·.2.2) ∧ (Instr.next (.pointer (some ⟨r, 0, none⟩)) false ty).run P w = .ok (.tuple #[.bool true, ek x.1, x.2.1]) w' ∧
      IterAt w' r b clock (done ++ [x]) ∧ w.grownBy w' (some r) ∧ w'.heap.size = w.heap.size := by
  obtain ⟨rest, hrest⟩ : ∃ rest, rest = l.filter fun x => !(done.map (·.2.2)).contains x.2.2 := ⟨_, rfl⟩
  have e1 : (ents ek l).filter (fun e => !((done.map (·.2.2)).toArray.contains e.born)) = ents ek rest := by
    apply Array.toList_inj.1
    rw [hrest]
    simp only [ents, Array.toList_filter, List.filter_map, List.contains_toArray]
    rfl
  have hy : ∀ x ∈ rest, x.2.2 < clock := fun x hx => h.young x (by rw [hrest] at hx; exact (List.mem_filter.1 hx).1)
  have e2 : (ents ek rest).filter (fun e => decide (e.born < clock)) = ents ek rest := by
    apply Array.toList_inj.1
    simp only [ents, Array.toList_filter]
    rw [List.filter_eq_self]
    intro e he
    obtain ⟨x, hx, rfl⟩ := List.mem_map.1 he
    exact decide_eq_true (hy x hx)
  have e3 : (ents ek rest).filter (fun e => decide (e.born ≥ clock)) = #[] := by
    apply Array.toList_inj.1
    simp only [ents, Array.toList_filter]
    rw [List.filter_eq_nil_iff]
    intro e he
    obtain ⟨x, hx, rfl⟩ := List.mem_map.1 he
    have := hy x hx
    simp [ent]; omega
  have hc : (!((done.map (·.2.2)).toArray).isEmpty && !(ents ek l).isEmpty && (ents ek l).all (fun e => decide (e.born ≥ clock))) = false := by
    cases hl : l with
    | nil => simp [ents]
    | cons x l' =>
      have := h.young x (by rw [hl]; simp)
      simp [ents, ent]; omega
  unfold Instr.next
  simp only [Sem.run_bind, run_getObj_iter hi, Result.andThen, MapKept.run_getObj_map h.heap, hc, e1, e2, e3]
  simp only [Bool.false_eq_true, if_false, Array.append_empty]
  by_cases hr : rest = []
  · refine .inl ⟨fun x hx => ?_, ?_⟩
    · have h1 : x ∉ rest := by rw [hr]; simp
      rw [hrest, List.mem_filter] at h1
      simpa [hx] using h1
    · obtain ⟨i, w', h1, h2, h3, h4, h5, h6⟩ := run_choose (P := P) 1 (by omega) w
      obtain rfl : i = 0 := by omega
      have hw : w' = w := by
        unfold choose at h1
        simp only [Sem.run] at h1
        rw [if_pos (by rfl)] at h1
        injection h1 with _ h1; exact h1.symm
      subst hw
      subst hr
      have hcand : ((if (ents ek ([] : List (Ent κ))).isEmpty = true then #[none] else #[]) ++ (ents ek ([] : List (Ent κ))).map some) = #[none] := by simp [ents]
      rw [hcand, show (#[none] : Array (Option MapEntry)).size = 1 from rfl, Sem.run_bind, h1]
      rfl
  · refine .inr ?_
    have hne : (ents ek rest).isEmpty = false := by
      cases rest with
      | nil => exact absurd rfl hr
      | cons x t => simp [ents]
    have hsz : (#[] ++ (ents ek rest).map some).size = rest.length := by simp [ents]
    obtain ⟨i, w', h1, h2, h3, h4, h5, h6⟩ := run_choose (P := P) rest.length (List.length_pos_iff.2 hr) w
    have hg : (#[] ++ (ents ek rest).map some)[i]? = some (some (ent ek rest[i])) := by simp [ents, h2]
    have hmem : rest[i] ∈ rest := List.getElem_mem h2
    generalize rest[i] = x at hg hmem
    rw [hrest, List.mem_filter] at hmem
    have hi' : w'.heap[r]? = some (.mapIter (some b) clock (done.map (·.2.2)).toArray clock) := by rw [h3]; exact hi
    refine ⟨x, { w' with heap := w'.heap.setIfInBounds r (.mapIter (some b) clock ((done.map (·.2.2)).toArray.push (ent ek x).born) clock) }, hmem.1, by simpa using hmem.2, ?_, ?_, ?_, ?_⟩
    · simp only [hne, Bool.false_eq_true, if_false]
      rw [hsz, Sem.run_bind, h1]
      simp only [hg, Sem.run_bind, run_setObj_iter _ hi', Sem.run_pure, Result.andThen]
      rfl
    · have hlt := (Array.getElem?_eq_some_iff.1 hi').1
      show (w'.heap.setIfInBounds r _)[r]? = _
      rw [Array.getElem?_setIfInBounds_self_of_lt hlt]
      simp [ent]
    · refine ⟨h4, h5, h6, by simp [h3], fun k hk hne => ?_⟩
      show (w'.heap.setIfInBounds r _)[k]? = _
      rw [Array.getElem?_setIfInBounds_ne (fun e => hne (by rw [e])), h3]
    · simp [h3]
theorem find_born {l : List (Ent κ)} (hn : (l.map (·.2.2)).Nodup) {j : Nat} {x : Ent κ} (hx : l[j]? = some x) : l.find? (fun y => y.2.2 == x.2.2) = some x := by
  induction l generalizing j with
  | nil => simp at hx
  | cons y l ih =>
    simp only [List.map_cons, List.nodup_cons] at hn
    cases j with
    | zero => simp only [List.getElem?_cons_zero, Option.some.injEq] at hx; subst hx; simp
    | succ j =>
      simp only [List.getElem?_cons_succ] at hx
      have hm : x.2.2 ∈ l.map (·.2.2) := List.mem_map.2 ⟨x, List.mem_of_getElem? hx, rfl⟩
      have hne : y.2.2 ≠ x.2.2 := fun e => hn.1 (e ▸ hm)
      rw [List.find?_cons_of_neg (by simp [hne])]
      exact ih hn.2 hx
theorem run_entry (h : MapAt w b ek ok l clock) {done : List (Ent κ)} {x : Ent κ} (hx : x ∈ l) (hi : IterAt w r b clock (done ++ [x])) :
    (Instr.entry (.pointer (some ⟨r, 0, none⟩))).run P w = .ok (.tuple #[ek x.1, x.2.1]) w := by
  have hf : (ents ek l).find? (fun e => e.born == x.2.2) = some (ent ek x) := by
    obtain ⟨j, hj⟩ := List.mem_iff_getElem?.1 hx
    have := find_born h.borns hj
    simp only [ents, List.find?_toArray, List.find?_map]
    rw [show (fun e => e.born == x.2.2) ∘ ent ek = fun y : Ent κ => y.2.2 == x.2.2 from rfl, this]
    rfl
  simp [Instr.entry, run_getObj_iter hi, Result.andThen, MapKept.run_getObj_map h.heap, hf, ent]
end
end Go.Proofs.YtmjaclgbagogfaaDoor
