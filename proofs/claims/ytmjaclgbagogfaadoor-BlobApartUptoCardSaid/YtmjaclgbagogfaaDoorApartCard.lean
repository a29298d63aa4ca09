/- BlobApart: for every list of blobs and every further blob, together of bulk at most 1048576, it returns true, and both read behind it as they read before; the rounds of SHA-256 are tied to the program's text. -/
import Derived.Test.YtmjaclgbagogfaaDoorCards
import Derived.Test.YtmjaclgbagogfaaDoorTie
import Derived.Test.YtmjaclgbagogfaaDoorApart
import Derived.ProofKit
import Derived.OpenShut
import Derived.Deep.DeepHandedRow
import Derived.Deep.Matrix
import Derived.Deep.OwnRows
import Derived.Lib.LaidTab
import Derived.WideKeyArgs
namespace Go.Proofs.YtmjaclgbagogfaaDoor.Joined
open Go.ChangeShapes Go.WideShapes Go.ChangeAt Go.RowKit Go.Deep Go.Proofs.YtmjaclgbagogfaaDoor

theorem own : ownKnob Tryd.prog.godebug = none := by kernel_rfl
theorem gTab : Tryd.prog.globalNamed "veneer/sha.rounds" = some 0 := by kernel_rfl
theorem gTabType : (Tryd.prog.globals[0]?).map (·.type) = some 63 := by kernel_rfl
theorem cellsTab : Tryd.prog.cellsOf 63 = 64 := by kernel_rfl
theorem cellsU32 : Tryd.prog.cellsOf 61 = 1 := by kernel_rfl
theorem cellsRow : Tryd.prog.cellsOf 31 = 1 := by kernel_rfl
theorem since {w w' : World} {B : Nat} (h : Below B w w') : w.Since B w' := ⟨h.os, h.tape, h.output, h.size, h.block⟩
theorem laid_rounds : Rows.blobApartRow.laid = [("veneer/sha.rounds", Lib.tabData .u32 (Sha.K.map fun (n : Nat) => (n : Int)))] := by kernel_rfl
/-- What the row's list gives: the rounds. -/
theorem rounds {W : World} (h : laidMetH Tryd.prog Rows.blobApartRow.laid W) : Rounds W := by
  rw [laid_rounds] at h
  have ht : Lib.TabIs Tryd.prog W "veneer/sha.rounds" .u32 (Sha.K.map fun (n : Nat) => (n : Int)) := Lib.tabIs_of_head (rest := []) gTab gTabType Tryd.underlying63 Tryd.underlying61 cellsU32 cellsTab h
  have hc : ∀ i, i < 64 → W.cell? ⟨0, i, none⟩ = some (U (BitVec.ofNat 32 (Sha.K.getD i 0))) := by
    intro i hi
    rw [ht.cell gTab i (by rw [List.length_map]; exact hi)]
    have hl : i < Sha.K.length := hi
    have h1 := (show ∀ x ∈ Sha.K, x < 4294967296 by decide) Sha.K[i] (List.getElem_mem hl)
    have h2 : Sha.K[i] % 4294967296 = Sha.K[i] := Nat.mod_eq_of_lt h1
    simp [List.getD, hl, BitVec.toNat_ofNat]
    omega
  refine ⟨?_, hc⟩
  have h0 := hc 0 (by omega)
  exact block_lt_of_cell h0
/-- A byte out of a number. -/
def byteOf (n : Int) : UInt8 := UInt8.ofNat n.toNat
theorem byteOf_val {n : Int} (h : (Lit.int .u8 n).wf = true) : B (byteOf n) = .int .u8 n := by
  simp only [Lit.wf, Bool.and_eq_true, decide_eq_true_eq] at h
  obtain ⟨h0, h1⟩ := h
  have h0 : 0 ≤ n := h0
  have h1 : n ≤ 255 := h1
  obtain ⟨k, rfl⟩ := Int.eq_ofNat_of_zero_le h0
  have h2 : k % 2 ^ 8 = k := Nat.mod_eq_of_lt (by omega)
  show Value.int .u8 (((UInt8.ofNat (k : Int).toNat).toNat : Nat) : Int) = _
  rw [Int.toNat_natCast, UInt8.toNat_ofNat', h2]
theorem rows_in {W : World} {a : Addr} {len cap : Nat} {A : Nat → Option Addr} {L C : Nat → Nat} {Z : Nat → List Int} (F : Nat → Prop) (hF : ∀ i, F i → W.heap.size ≤ i) (hl : len ≤ cap)
    (h : ∀ r, r < cap → W.cell? (a.add r) = some (.slice (A r) (L r) (C r)) ∧ L r ≤ C r ∧ C r ≤ maxLen ∧ (Z r).length = C r ∧ (∀ n ∈ Z r, (Lit.int .u8 n).wf = true) ∧ (A r = none → C r = 0) ∧
        ∀ a', A r = some a' → 0 ≤ a'.block ∧ ∀ c, c < C r → W.cell? (a'.add c) = some (.int .u8 ((Z r).getD c 0))) :
    Ins F W (some a) ((List.range len).map fun r => (.slice (A r) (L r) (C r), ((Z r).take (L r)).map byteOf)) := by
  intro hne
  have h0 : 0 < len := by
    rcases Nat.eq_zero_or_pos len with e | e
    · exact absurd (by rw [e]; rfl) hne
    · exact e
  obtain ⟨b, o, sp⟩ := a
  have hsp : sp = none := by simpa [Addr.add] using World.cell?_spot (h 0 (by omega)).1
  subst hsp
  have hblk : ∀ {p : Addr} {v : Value}, W.cell? p = some v → p.block < W.heap.size ∧ ¬ F p.block := fun hp => ⟨block_lt_of_cell hp, fun hf => by have := block_lt_of_cell hp; have := hF _ hf; omega⟩
  have hb := hblk (h 0 (by omega)).1
  rw [block_of_add] at hb
  refine ⟨b, o, rfl, hb.1, hb.2, fun j x hx => ?_⟩
  have hj : j < len := by
    rcases Nat.lt_or_ge j len with h | h
    · exact h
    · rw [List.getElem?_eq_none (by simpa using h)] at hx; cases hx
  rw [List.getElem?_map, List.getElem?_range hj] at hx
  simp only [Option.map_some, Option.some.injEq] at hx
  subst hx
  obtain ⟨h1, h2, h3, h4, h5, h6, h7⟩ := h j (by omega)
  rw [add_none] at h1
  refine ⟨h1, A j, C j, ?_, ?_, h6, fun hne => ?_⟩
  · congr 1; simp; omega
  · simp; omega
  · have hL : 0 < L j := by
      rcases Nat.eq_zero_or_pos (L j) with e | e
      · exact absurd (by rw [e]; rfl) hne
      · exact e
    cases hA : A j with
    | none => have := h6 hA; omega
    | some a' =>
      obtain ⟨_, hc⟩ := h7 a' hA
      obtain ⟨b', o', sp⟩ := a'
      have hs : sp = none := by simpa [Addr.add] using World.cell?_spot (hc 0 (by omega))
      subst hs
      have hb' := hblk (hc 0 (by omega))
      rw [block_of_add] at hb'
      refine ⟨b', o', rfl, hb'.1, hb'.2, fun i hi => ?_⟩
      have hi : i < L j := by simp at hi; omega
      have hz : i < (Z j).length := by omega
      have e1 := hc i (by omega)
      rw [add_none] at e1
      rw [e1]
      have e2 : (((Z j).take (L j)).map byteOf).getD i 0 = byteOf ((Z j)[i]) := by
        rw [List.getD_eq_getElem?_getD, List.getElem?_map, List.getElem?_take_of_lt hi, List.getElem?_eq_getElem hz]; rfl
      rw [e2, byteOf_val (h5 _ (List.getElem_mem hz))]
      rw [List.getD_eq_getElem?_getD, List.getElem?_eq_getElem hz]; rfl
theorem one_le {H : Type} (d : DataW H) : 1 ≤ Rows.uptoBulk d := by
  cases d with
  | lit l => cases l <;> simp [Rows.uptoBulk]
  | nil => simp [Rows.uptoBulk]
  | ptr d => simp [Rows.uptoBulk]
  | slice elems spare => simp [Rows.uptoBulk]
  | agg parts => simp [Rows.uptoBulk]
  | iface t d => simp [Rows.uptoBulk]
  | map entries => simp [Rows.uptoBulk]
  | held h => simp [Rows.uptoBulk]
theorem length_le {H : Type} (l : List (DataW H)) : l.length ≤ Rows.uptoBulkAll l := by
  induction l with
  | nil => simp [Rows.uptoBulkAll]
  | cons x r ih => have := one_le x; simp only [Rows.uptoBulkAll, List.length_cons]; omega
theorem bulk_row {H : Type} (A : Option Addr) (L C : Nat) (Z : List Int) (h1 : L ≤ C) (h2 : Z.length = C) (h3 : A = none → C = 0) : L ≤ Rows.uptoBulk (intRow (H := H) .u8 A L Z) := by
  cases A with
  | none => have := h3 rfl; omega
  | some a =>
    simp only [intRow, Rows.uptoBulk]
    have := length_le (lits (H := H) .u8 (Z.take L))
    simp only [lits, List.length_map, List.length_take] at this
    unfold lits
    omega
theorem bulk_rows {H : Type} (A : Nat → Option Addr) (L C : Nat → Nat) (Z : Nat → List Int) : ∀ (rs : List Nat), (∀ r ∈ rs, L r ≤ C r ∧ (Z r).length = C r ∧ (A r = none → C r = 0)) →
    ((rs.map fun r => ((Z r).take (L r)).map byteOf).map List.length).sum ≤ Rows.uptoBulkAll (rs.map fun r => intRow (H := H) .u8 (A r) (L r) (Z r)) := by
  intro rs
  induction rs with
  | nil => intro _; simp
  | cons r rs ih =>
    intro h
    have h0 := h r (by simp)
    have := ih (fun x hx => h x (by simp [hx]))
    have := bulk_row (H := H) (A r) (L r) (C r) (Z r) h0.1 h0.2.1 h0.2.2
    simp only [List.map_cons, List.sum_cons, Rows.uptoBulkAll, List.length_map, List.length_take] at *
    omega
set_option maxRecDepth 100000 in
theorem contract (H : Type) (enc : TypeId × Value → H) (W : World) (base : Nat) (args : Array Value) (ds gs : List (DataW H)) (before : List MemPlace)
    (hval : ∀ (j : Nat) t v, Tryd.f5.params[j]? = some t → args[j]? = some v → Value.okWide Tryd.prog W .any base t v)
    (hW : DataW.Whole enc Tryd.prog Tryd.f5.params.toList Rows.blobApartSpec.vars false W args.toList ds gs before) (hL : laidMetH Tryd.prog Rows.blobApartRow.laid W)
    (hk : Rows.uptoSmall H (ds ++ gs) = true) :
    Calls Tryd.prog 5 args W fun e W' => ∃ v, e = .returned v ∧ Rows.blobApartSpec.post enc Tryd.prog Tryd.f5 false true false false W args v W' := by
  have hW' := hW
  obtain ⟨p, q, hA0, hV, rfl, hfz, hnd⟩ := hW
  have hA : DataW.TrodAll enc Tryd.prog W 0 (fun _ => true) true Tryd.f5.params.toList args.toList ds p := hA0
  rw [Tryd.params5] at hA hval
  obtain ⟨v0, vs0, d0, ds0, p0, q0, hargs, rfl, rfl, h0, r0⟩ := trodAll_cons hA
  obtain ⟨v1, vs1, d1, ds1, p1, q1, rfl, rfl, rfl, h1, r1⟩ := trodAll_cons r0
  obtain ⟨rfl, rfl, rfl⟩ := trodAll_nil r1
  obtain rfl : args = #[v0, v1] := by cases args; simp_all
  obtain ⟨rfl, rfl⟩ := trodVars_none hV
  obtain ⟨a0, len, cap, rfl⟩ := okWide_slice Tryd.underlying22 (hval 0 22 v0 rfl rfl)
  obtain ⟨a1, len1, cap1, rfl⟩ := okWide_slice Tryd.underlying31 (hval 1 31 v1 rfl rfl)
  have h0k := h0
  have h1k := h1
  obtain ⟨fuel0, hf⟩ := h0
  obtain ⟨fuel1, hg⟩ := h1
  clear hA0 hA r0 r1 hval
  have hlt : ∀ x, x ∈ p0 ∨ x ∈ p1 → x.block < W.heap.size := fun x hx => hW'.lt x (by rcases hx with hx | hx <;> simp [hx])
  have hread0 : ∀ W' : World, W.Since W.heap.size W' → DataW.Trod enc Tryd.prog W' 0 (fun b => decide (b < W.heap.size)) true 22 (.slice a0 len cap) d0 p0 := fun W' hs =>
    WideElems.Trod_stays Tryd.laidOut (by kernel_rfl) (of_decide_eq_true (by kernel_rfl)) h0k (fun x hx => hs.sameAt (hlt x (.inl hx))) (fun x hx => by simpa using hlt x (.inl hx))
  have hread1 : ∀ W' : World, W.Since W.heap.size W' → DataW.Trod enc Tryd.prog W' 0 (fun b => decide (b < W.heap.size)) true 31 (.slice a1 len1 cap1) d1 p1 := fun W' hs =>
    WideElems.Trod_stays Tryd.laidOut (by kernel_rfl) (of_decide_eq_true (by kernel_rfl)) h1k (fun x hx => hs.sameAt (hlt x (.inr hx))) (fun x hx => by simpa using hlt x (.inr hx))
  have fin : ∀ W' : World, Below W.heap.size W W' → Rows.blobApartSpec.post enc Tryd.prog Tryd.f5 false true false false W #[.slice a0 len cap, .slice a1 len1 cap1] (.bool true) W' := by
    intro W' hb
    exact ⟨_, _, _, [], p0 ++ p1, [], hW', trodAll_mk1 (shut_bool Tryd.underlying4 true), trodAll_mk2 (hread0 W' (since hb)) (hread1 W' (since hb)), rfl, (since hb).frame _, fun h => by cases h⟩
  have hb := of_decide_eq_true hk
  simp only [List.append_nil, Rows.uptoBulkAll] at hb
  have hR := rounds hL
  have hmore : ∃ more : List UInt8, len1 = more.length ∧ Bs (fun g => W.heap.size ≤ g) W (.slice a1 len1 cap1) more ∧ more.length ≤ Rows.uptoBulk d1 := by
    rcases open_ints Tryd.underlying31 Tryd.underlying5 keyD_cell1 hg with ⟨hcs0, hx⟩ | ⟨a, len', cap', zs, hcs0, _, hl, hm, hz, hx, hc, hwf⟩
    · simp [Value.cells] at hcs0
      obtain ⟨rfl, rfl, rfl⟩ := hcs0
      exact ⟨[], rfl, ⟨none, 0, rfl, Nat.le_refl _, fun _ => rfl, fun h => absurd rfl h⟩, Nat.zero_le _⟩
    · simp [Value.cells] at hcs0
      obtain ⟨rfl, rfl, rfl⟩ := hcs0
      simp only [if_true] at hz
      simp only [Prod.mk.injEq] at hx
      obtain ⟨rfl, rfl⟩ := hx
      have e : ((zs.take len1).map byteOf).length = len1 := by simp; omega
      refine ⟨(zs.take len1).map byteOf, e.symm, ⟨some a, cap1, by rw [e], by rw [e]; exact hl, (fun h => by cases h), fun hne => ?_⟩, ?_⟩
      · have hL : 0 < len1 := by
          rcases Nat.eq_zero_or_pos len1 with e0 | e0
          · exact absurd (by rw [e0]; rfl) hne
          · exact e0
        obtain ⟨b', o', sp⟩ := a
        have hs : sp = none := by simpa [Addr.add] using World.cell?_spot (hc 0 (by omega))
        subst hs
        have hb' := block_lt_of_cell (hc 0 (by omega))
        rw [block_of_add] at hb'
        refine ⟨b', o', rfl, hb', by show ¬ (W.heap.size ≤ b'); exact Nat.not_le.2 hb', fun i hi => ?_⟩
        rw [e] at hi
        have hzl : i < zs.length := by omega
        have e1 := hc i hzl
        rw [add_none] at e1
        rw [e1]
        have e2 : ((zs.take len1).map byteOf).getD i 0 = byteOf (zs[i]) := by
          rw [List.getD_eq_getElem?_getD, List.getElem?_map, List.getElem?_take_of_lt hi, List.getElem?_eq_getElem hzl]; rfl
        rw [e2, byteOf_val (hwf _ (List.getElem_mem hzl))]
        rw [List.getD_eq_getElem?_getD, List.getElem?_eq_getElem hzl]; rfl
      · rw [e]
        simp only [Rows.uptoBulk]
        have := length_le (lits (H := H) .u8 (zs.take len1))
        simp only [lits, List.length_map, List.length_take] at this
        unfold lits
        omega
  obtain ⟨more, rfl, hBs, hml⟩ := hmore
  rcases open_int_rows Tryd.underlying22 Tryd.underlying31 Tryd.underlying5 cellsRow keyD_cell1 hf with ⟨hcs0, hx⟩ | ⟨a, len', cap', A, L, C, Z, hcs0, _, hl, hm, hx, hrows⟩
  · simp [Value.cells] at hcs0
    obtain ⟨rfl, rfl, rfl⟩ := hcs0
    refine (apart_any none 0 [] a1 cap1 more W hR (fun h => absurd rfl h) (by simp) (by simp) (by simp [lens]; omega) hBs).mono fun e W' ⟨he, hw⟩ => ?_
    exact ⟨_, he, fin W' hw⟩
  · simp [Value.cells] at hcs0
    obtain ⟨rfl, rfl, rfl⟩ := hcs0
    simp only [Prod.mk.injEq] at hx
    obtain ⟨rfl, rfl⟩ := hx
    have hlen : (((List.range len).map fun r => ((.slice (A r) (L r) (C r) : Value), ((Z r).take (L r)).map byteOf))).length = len := by simp
    simp only [Rows.uptoBulk] at hb
    have h2 := length_le ((List.range len).map fun r => intRow (H := H) .u8 (A r) (L r) (Z r))
    rw [List.length_map, List.length_range] at h2
    have h3 := bulk_rows (H := H) A L C Z (List.range len) (fun r hr => by
      obtain ⟨_, x1, _, x2, _, x3, _⟩ := hrows r (by have := List.mem_range.1 hr; omega)
      exact ⟨x1, x2, x3⟩)
    have h4 : lens (((List.range len).map fun r => ((.slice (A r) (L r) (C r) : Value), ((Z r).take (L r)).map byteOf)).map (·.2)) + more.length ≤ 70368744177664 := by
      have e : (((List.range len).map fun r => ((.slice (A r) (L r) (C r) : Value), ((Z r).take (L r)).map byteOf)).map (·.2)) = (List.range len).map fun r => ((Z r).take (L r)).map byteOf := by
        rw [List.map_map]; rfl
      unfold lens
      rw [e]
      omega
    have := apart_any (some a) cap ((List.range len).map fun r => ((.slice (A r) (L r) (C r) : Value), ((Z r).take (L r)).map byteOf)) a1 cap1 more W hR (rows_in _ (fun _ h => h) hl hrows) (by rw [hlen]; exact hl) (by rw [hlen]; omega) h4 hBs
    rw [hlen] at this
    refine this.mono fun e W' ⟨he, hw⟩ => ?_
    exact ⟨_, he, fin W' hw⟩

/-- A world for the witness: the rounds lie where their initialiser lays them. -/
noncomputable def laidWorld (os : Os) : World :=
  { World.holding Tryd.prog os ⟨#[], #[], []⟩ with heap := (World.holding Tryd.prog os ⟨#[], #[], []⟩).heap.modify 0 fun
      | .cells _ t frozen => .cells (Sha.K.map fun (n : Nat) => Value.int .u32 (n : Int)).toArray t frozen
      | o => o }
theorem laid_met (os : Os) : laidMet Tryd.prog Rows.blobApartUptoRow.laid ((laidWorld os).forCall (fun _ _ => 0) ⟨#[], #[.slice none 0 0, .slice none 0 0], []⟩).memory :=
  laidMet_of_run' 8 (by kernel_rfl) (by kernel_rfl)
theorem reads (os : Os) {H : Type} (enc : TypeId × Value → H) : ∃ places, DataW.whole enc Tryd.prog ((laidWorld os).forCall (fun _ _ => 0) ⟨#[], #[.slice none 0 0, .slice none 0 0], []⟩).memory Tryd.f5.params.toList Rows.blobApartSpec.vars false #[Value.slice none 0 0, .slice none 0 0].toList 8 = some ([.nil, .nil], [], places) :=
  ⟨[], by kernel_rfl⟩
set_option maxRecDepth 100000 in
theorem lifted (os : Os) (started : os.Started) (H : Type) (enc : TypeId × Value → H) (F : Stop.Interp) :
    ReturnsInHanded {} Tryd.checked os 5 .any ((Rows.OpenSpec.upto Rows.blobApartSpec).preRow enc Tryd.prog Tryd.f5 Rows.blobApartUptoRow.domain false Rows.blobApartUptoRow.laid)
      (((Rows.OpenSpec.upto Rows.blobApartSpec).at F).post enc Tryd.prog Tryd.f5 false true false false) := by
  obtain ⟨places, hx⟩ := reads os enc
  refine returnsInHanded_of_row (C := Tryd.checked) (s := Rows.OpenSpec.upto Rows.blobApartSpec) own started (by kernel_rfl) Tryd.func5
    (witness_row_at (enc := enc) (C := Tryd.checked) false (laidWorld os) #[.slice none 0 0, .slice none 0 0] rfl (by kernel_rfl) (by kernel_rfl) (by kernel_rfl)
      (OpenSpec.preRow_of_cond 8 hx (by kernel_rfl) (fun k hk => by cases hk; kernel_rfl) (by kernel_rfl) (laid_met os))) ?_
  intro W base args ds gs before hval hW _ hcond _ hL _ _
  exact contract H enc W base args ds gs before hval hW hL (hcond _ rfl)
theorem said : Rows.BlobApartUptoSaid :=
  OpenClaim.holds_of_cond 5 Tryd.f5 rfl rfl rfl rfl rfl rfl rfl ⟨rfl, rfl, rfl, rfl, rfl⟩ rfl rfl rfl rfl rfl (by kernel_rfl) Tryd.func5 (by kernel_rfl)
    (of_decide_eq_true (by kernel_rfl)) (by unfold Func.isWrapper; first | (rw [if_pos (by decide +kernel)]; kernel_rfl) | (rw [if_neg (by decide +kernel)]; exact ⟨rfl, rfl⟩))
    (fun os started H enc _ F => by rw [OpenClaim.pre_eq_preRow]; exact lifted os started H enc F)
theorem plain (f : FuncId) (fn : Func) (hf : Tryd.pinned.checked.prog.funcNamed "veneer/veneerlaw05.BlobApart" = some f) (hfn : Tryd.pinned.checked.prog.funcs[f]? = some fn) :
    false = Tryd.pinned.checked.prog.looks [] ∧ ∀ (j : Nat) t, fn.params[j]? = some t → Tryd.pinned.checked.prog.wantsStandIn t = false := by
  obtain rfl : f = 5 := Option.some.inj ((show Tryd.prog.funcNamed "veneer/veneerlaw05.BlobApart" = some 5 by kernel_rfl).symm.trans hf) |>.symm
  obtain rfl : fn = Tryd.f5 := (Option.some.inj (Tryd.func5.symm.trans hfn)).symm
  refine ⟨by kernel_rfl, fun j t ht => ?_⟩
  rw [Tryd.params5] at ht
  have h2 : t = 22 ∨ t = 31 := by simpa using Array.mem_of_getElem? ht
  rcases h2 with rfl | rfl
  · exact (show Tryd.prog.wantsStandIn 22 = false by kernel_rfl)
  · exact (show Tryd.prog.wantsStandIn 31 = false by kernel_rfl)
/-- THE CARD. -/
theorem BlobApart_holds : Rows.BlobApartUptoCardSaid :=
  Claim7.holds_tied_plain_at .later [] _ _ _ _ said (fun _ h => by cases h) (by kernel_rfl) (fun _ h => by cases h) blobApartUpto_row_tie rfl ⟨rfl, rfl⟩ (by kernel_rfl) rfl plain (by kernel_rfl)
#print axioms BlobApart_holds
end Go.Proofs.YtmjaclgbagogfaaDoor.Joined
