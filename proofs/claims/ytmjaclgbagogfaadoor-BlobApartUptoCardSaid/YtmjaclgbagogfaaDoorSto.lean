/- A store in memory: its cells, its map, the bytes of each blob. -/
import Derived.Test.YtmjaclgbagogfaaDoorMapsW
import Derived.Test.YtmjaclgbagogfaaDoorApp
namespace Go.Proofs.YtmjaclgbagogfaaDoor
open Go.RowKit Go.Maps Go.MapKept Go.Proofs.YtmjaclgbagogfaaDoor.Sha

/-- Every block that is not in F stays as it is. -/
structure Off (F : Nat → Prop) (w w' : World) : Prop where
  os : w'.os = w.os
  tape : w'.tape = w.tape
  output : w'.output = w.output
  size : w.heap.size ≤ w'.heap.size
  block : ∀ i, i < w.heap.size → ¬ F i → w'.heap[i]? = w.heap[i]?
section
variable {F G : Nat → Prop} {w w1 w2 : World}
theorem Off.refl (F : Nat → Prop) (w : World) : Off F w w := ⟨rfl, rfl, rfl, Nat.le_refl _, fun _ _ _ => rfl⟩
theorem Off.trans (h : Off F w w1) (k : Off G w1 w2) (hG : ∀ i, i < w.heap.size → G i → F i) : Off F w w2 :=
  ⟨k.os.trans h.os, k.tape.trans h.tape, k.output.trans h.output, Nat.le_trans h.size k.size, fun i hi hn => (k.block i (Nat.lt_of_lt_of_le hi h.size) (fun g => hn (hG i hi g))).trans (h.block i hi hn)⟩
theorem Off.mono (h : Off F w w1) (hG : ∀ i, i < w.heap.size → F i → G i) : Off G w w1 := ⟨h.os, h.tape, h.output, h.size, fun i hi hn => h.block i hi (fun f => hn (hG i hi f))⟩
theorem Off.drewN (h : Off F w w1) (n : Nat) : Off F w (w1.drewN n) := ⟨h.os, h.tape, h.output, h.size, h.block⟩
theorem Off.drew (h : Off F w w1) : Off F w w1.drew := ⟨h.os, h.tape, h.output, h.size, h.block⟩
theorem Off.alloc (h : Off F w w1) (o : Obj) : Off F w (w1.alloc o) :=
  ⟨h.os, h.tape, h.output, Nat.le_trans h.size (by simp), fun i hi hn => (Below.heap_alloc w1 o i (Nat.lt_of_lt_of_le hi h.size)).trans (h.block i hi hn)⟩
theorem Off.set_ (h : Off F w w1) {p : Addr} (hp : F p.block) (u : Value) : Off F w (w1.setCell p u) :=
  ⟨h.os, h.tape, h.output, by simpa [World.setCell] using h.size, fun i hi hn => (Below.heap_setCell w1 p u i (fun e => hn (by rw [e]; exact hp))).trans (h.block i hi hn)⟩
theorem Off.below {b : Nat} (h : Off F w w1) (hb : Below b w1 w2) (hB : w.heap.size ≤ b) : Off F w w2 :=
  ⟨hb.os.trans h.os, hb.tape.trans h.tape, hb.output.trans h.output, Nat.le_trans h.size hb.size, fun i hi hn => (hb.block i (by omega)).trans (h.block i hi hn)⟩
theorem Off.grown {row : Option Nat} (h : Off F w w1) (hb : w1.grownBy w2 row) (hr : ∀ g, row = some g → g < w.heap.size → F g) : Off F w w2 :=
  ⟨hb.os.trans h.os, hb.tape.trans h.tape, hb.output.trans h.output, Nat.le_trans h.size hb.size, fun i hi hn => (hb.block i (Nat.lt_of_lt_of_le hi h.size) (fun e => hn (hr i e.symm hi))).trans (h.block i hi hn)⟩
theorem Off.cell (h : Off F w w1) {p : Addr} (hp : p.block < w.heap.size) (hn : ¬ F p.block) : w1.cell? p = w.cell? p := World.cell?_of_block (h.block _ hp hn)
theorem Blk.off {g : Nat} {t : TypeId} {cs : Array Value} (h : Blk w g t cs) (k : Off F w w1) (hn : ¬ F g) : Blk w1 g t cs := (k.block g h.lt hn).trans h
end

/-- The round constants of SHA-256 lie in the program's global. -/
def Rounds (w : World) : Prop := 0 < w.heap.size ∧ ∀ i, i < 64 → w.cell? ⟨0, i, none⟩ = some (U (BitVec.ofNat 32 (K.getD i 0)))
theorem Rounds.off {F : Nat → Prop} {w w1 : World} (h : Rounds w) (k : Off F w w1) (hn : ¬ F 0) : Rounds w1 :=
  ⟨Nat.lt_of_lt_of_le h.1 k.size, fun i hi => (k.cell (p := ⟨_, i, none⟩) h.1 hn).trans (h.2 i hi)⟩
theorem Rounds.below {w w1 : World} (h : Rounds w) (k : Below w.heap.size w w1) : Rounds w1 :=
  ⟨Nat.lt_of_lt_of_le h.1 k.size, fun i hi => (k.cell (p := ⟨_, i, none⟩) h.1).trans (h.2 i hi)⟩

/-- The bytes of a slice whose block is not in F. -/
def Bs (F : Nat → Prop) (w : World) (v : Value) (l : List UInt8) : Prop :=
  ∃ A cap, v = .slice A l.length cap ∧ l.length ≤ cap ∧ (A = none → cap = 0) ∧ (l ≠ [] → ∃ b o, A = some ⟨b, o, none⟩ ∧ b < w.heap.size ∧ ¬ F b ∧ ∀ j, j < l.length → w.cell? ⟨b, o + j, none⟩ = some (B (l.getD j 0)))
theorem Bs.off {F G : Nat → Prop} {w w1 : World} {v : Value} {l : List UInt8} (h : Bs F w v l) (k : Off G w w1) (hG : ∀ g, g < w.heap.size → G g → F g) : Bs F w1 v l := by
  obtain ⟨A, cap, e, hc, hN, h⟩ := h
  refine ⟨A, cap, e, hc, hN, fun hne => ?_⟩
  obtain ⟨b, o, h1, h2, h3, h4⟩ := h hne
  exact ⟨b, o, h1, Nat.lt_of_lt_of_le h2 k.size, h3, fun j hj => (k.cell (p := ⟨b, o + j, none⟩) h2 (fun g => h3 (hG b h2 g))).trans (h4 j hj)⟩
theorem Bs.weak {F G : Nat → Prop} {w : World} {v : Value} {l : List UInt8} (h : Bs F w v l) (hG : ∀ g, g < w.heap.size → G g → F g) : Bs G w v l := by
  obtain ⟨A, cap, e, hc, hN, h⟩ := h
  refine ⟨A, cap, e, hc, hN, fun hne => ?_⟩
  obtain ⟨b, o, h1, h2, h3, h4⟩ := h hne
  exact ⟨b, o, h1, h2, fun g => h3 (hG b h2 g), h4⟩

/-- A blob in a store: its digest, its bytes, its slice, when it came. -/
structure Rec where
  d : List UInt8
  c : List UInt8
  v : Value
  t : Nat
def Rec.ent (r : Rec) : Ent (List UInt8) := (r.d, r.v, r.t)
def Rec.abs (r : Rec) : List UInt8 × List UInt8 := (r.d, r.c)
abbrev Own (w : World) (v : Value) (c : List UInt8) : Prop := w.ownsRow 0 5 1 v c.length (c.map B)
abbrev M := List (List UInt8 × List UInt8)

/-- The blobs of a map of slices. -/
structure Held (F : Nat → Prop) (w : World) (mb : Nat) (l : List Rec) (clock : Nat) : Prop where
  map : MapAt w mb encD IsD (l.map Rec.ent) clock
  here : F mb
  own : ∀ r ∈ l, Own w r.v r.c
  own_in : ∀ r ∈ l, ∀ g, r.v.ownBlock = some g → F g
  apart : l.Pairwise fun a b => ∀ g, a.v.ownBlock = some g → b.v.ownBlock ≠ some g
/-- A store. -/
def Store (F : Nat → Prop) (w : World) (s : Nat) (q n : Int) (m : M) : Prop :=
  ∃ mb l clock, Blk w s 58 #[I q, I n, .map (some mb)] ∧ F s ∧ Held F w mb l clock ∧ l.map Rec.abs = m

section
variable {F G : Nat → Prop} {w w1 : World} {mb clock : Nat} {l : List Rec}
theorem own_lt {base n : Nat} {v : Value} {xs : List Value} {e : TypeId} {size : Nat} (h : w.ownsRow base e size v n xs) {g : Nat} (hg : v.ownBlock = some g) : g < w.heap.size := by
  rcases h.2 with ⟨rfl, _⟩ | ⟨g', cap, cur, rfl, _, hh, _⟩
  · simp [Value.ownBlock] at hg
  · have : g' = g := by simpa [Value.ownBlock] using hg
    subst this
    exact Blk.lt (t := e) (cs := cur) hh
theorem own_keep {base n : Nat} {v : Value} {xs : List Value} {e : TypeId} {size : Nat} (h : w.ownsRow base e size v n xs) (hk : ∀ g, v.ownBlock = some g → w1.heap[g]? = w.heap[g]?) : w1.ownsRow base e size v n xs := by
  refine ⟨h.1, ?_⟩
  rcases h.2 with h1 | ⟨g', cap, cur, rfl, h2, hh, h3⟩
  · exact .inl h1
  · exact .inr ⟨g', cap, cur, rfl, h2, (hk g' rfl).trans hh, h3⟩
theorem map_ne_own {base n : Nat} {v : Value} {xs : List Value} {e : TypeId} {size : Nat} {κ : Type} {ek : κ → Value} {ok : κ → Prop} {le : List (Ent κ)} (h : w.ownsRow base e size v n xs) (hm : MapAt w mb ek ok le clock) : v.ownBlock ≠ some mb := by
  rcases h.2 with ⟨rfl, _⟩ | ⟨g', cap, cur, rfl, _, hh, _⟩
  · simp [Value.ownBlock]
  · intro hg
    have : g' = mb := by simpa [Value.ownBlock] using hg
    subst this
    rw [hm.heap] at hh
    cases hh
theorem Held.keep (h : Held F w mb l clock) (hk : ∀ i, i < w.heap.size → F i → w1.heap[i]? = w.heap[i]?) : Held F w1 mb l clock :=
  ⟨h.map.keep (hk mb h.map.lt h.here), h.here, fun r hr => own_keep (h.own r hr) (fun g hg => hk g (own_lt (h.own r hr) hg) (h.own_in r hr g hg)), h.own_in, h.apart⟩
theorem Held.keep1 (h : Held F w mb l clock) (hm : w1.heap[mb]? = w.heap[mb]?) (hk : ∀ r ∈ l, ∀ g, r.v.ownBlock = some g → w1.heap[g]? = w.heap[g]?) : Held F w1 mb l clock :=
  ⟨h.map.keep hm, h.here, fun r hr => own_keep (h.own r hr) (hk r hr), h.own_in, h.apart⟩
theorem Held.off (h : Held F w mb l clock) (k : Off G w w1) (hG : ∀ i, i < w.heap.size → F i → ¬ G i) : Held F w1 mb l clock := h.keep fun i hi hf => k.block i hi (hG i hi hf)
theorem Held.weak (h : Held F w mb l clock) (hG : ∀ i, i < w.heap.size → F i → G i) : Held G w mb l clock :=
  ⟨h.map, hG _ h.map.lt h.here, h.own, fun r hr g hg => hG g (own_lt (h.own r hr) hg) (h.own_in r hr g hg), h.apart⟩
theorem Held.drewN (h : Held F w mb l clock) (n : Nat) : Held F (w.drewN n) mb l clock := h.keep fun _ _ _ => rfl
theorem Held.alloc (h : Held F w mb l clock) (o : Obj) : Held F (w.alloc o) mb l clock := h.keep fun i hi _ => Below.heap_alloc w o i hi
theorem Held.below (h : Held F w mb l clock) (hb : Below w.heap.size w w1) : Held F w1 mb l clock := h.keep fun i hi _ => hb.block i hi
end
section
variable {F : Nat → Prop} {w w1 : World} {s : Nat} {q n : Int} {m : M}
theorem Store.below (h : Store F w s q n m) (hb : Below w.heap.size w w1) : Store F w1 s q n m := by
  obtain ⟨mb, l, clock, h1, h2, h3, h4⟩ := h
  exact ⟨mb, l, clock, h1.below hb h1.lt, h2, h3.below hb, h4⟩
theorem Store.weak {G : Nat → Prop} (h : Store F w s q n m) (hG : ∀ i, i < w.heap.size → F i → G i) : Store G w s q n m := by
  obtain ⟨mb, l, clock, h1, h2, h3, h4⟩ := h
  exact ⟨mb, l, clock, h1, hG _ h1.lt h2, h3.weak hG, h4⟩
theorem Store.off {G : Nat → Prop} (h : Store F w s q n m) (k : Off G w w1) (hG : ∀ i, i < w.heap.size → F i → ¬ G i) : Store F w1 s q n m := by
  obtain ⟨mb, l, clock, h1, h2, h3, h4⟩ := h
  exact ⟨mb, l, clock, h1.off k (hG _ h1.lt h2), h2, h3.off k hG, h4⟩
end

/-! ### abstract maps -/
def get (m : M) (d : List UInt8) : Option (List UInt8) := (m.find? fun x => decide (x.1 = d)).map (·.2)
def put (m : M) (d c : List UInt8) : M := if (get m d).isSome then m.map (fun x => if x.1 = d then (d, c) else x) else m ++ [(d, c)]
def drop (m : M) (d : List UInt8) : M := m.filter fun x => decide (x.1 ≠ d)
theorem get_none (m : M) (d : List UInt8) : get m d = none ↔ ∀ x ∈ m, x.1 ≠ d := by simp [get]
/-- What is at a key. -/
theorem look_rec (l : List Rec) (d : List UInt8) : (look (l.map Rec.ent) d = none ∧ get (l.map Rec.abs) d = none) ∨ ∃ r ∈ l, r.d = d ∧ look (l.map Rec.ent) d = some r.v ∧ get (l.map Rec.abs) d = some r.c := by
  induction l with
  | nil => exact .inl ⟨rfl, rfl⟩
  | cons r l ih =>
    by_cases e : r.d = d
    · exact .inr ⟨r, by simp, e, by simp [look, Rec.ent, e], by simp [get, Rec.abs, e]⟩
    · have e1 : look ((r :: l).map Rec.ent) d = look (l.map Rec.ent) d := by simp [look, Rec.ent, e]
      have e2 : get ((r :: l).map Rec.abs) d = get (l.map Rec.abs) d := by simp [get, Rec.abs, e]
      rw [e1, e2]
      rcases ih with h | ⟨r', hr, h⟩
      · exact .inl h
      · exact .inr ⟨r', by simp [hr], h⟩
theorem look_some_get (l : List Rec) (d : List UInt8) : (look (l.map Rec.ent) d).isSome = (get (l.map Rec.abs) d).isSome := by
  rcases look_rec l d with ⟨h1, h2⟩ | ⟨r, _, _, h1, h2⟩ <;> rw [h1, h2] <;> rfl
def updR (l : List Rec) (d c : List UInt8) (v : Value) (clock : Nat) : List Rec :=
  if (look (l.map Rec.ent) d).isSome then l.map (fun r => if r.d = d then ⟨d, c, v, r.t⟩ else r) else l ++ [⟨d, c, v, clock⟩]
theorem updR_ent (l : List Rec) (d c : List UInt8) (v : Value) (clock : Nat) : (updR l d c v clock).map Rec.ent = upd (l.map Rec.ent) d v clock := by
  unfold updR upd
  split
  · rw [List.map_map, List.map_map]
    apply List.map_congr_left
    intro r _
    by_cases e : r.d = d <;> simp [Rec.ent, e]
  · simp [Rec.ent]
theorem updR_abs (l : List Rec) (d c : List UInt8) (v : Value) (clock : Nat) : (updR l d c v clock).map Rec.abs = put (l.map Rec.abs) d c := by
  unfold updR put
  rw [look_some_get]
  split
  · rw [List.map_map, List.map_map]
    apply List.map_congr_left
    intro r _
    by_cases e : r.d = d <;> simp [Rec.abs, e]
  · simp [Rec.abs]
def delR (l : List Rec) (d : List UInt8) : List Rec := l.filter fun r => decide (r.d ≠ d)
theorem delR_ent (l : List Rec) (d : List UInt8) : (delR l d).map Rec.ent = del (l.map Rec.ent) d := by
  unfold delR del
  rw [List.filter_map]; rfl
theorem delR_abs (l : List Rec) (d : List UInt8) : (delR l d).map Rec.abs = drop (l.map Rec.abs) d := by
  unfold delR drop
  rw [List.filter_map]; rfl
end Go.Proofs.YtmjaclgbagogfaaDoor
