/- What (*sha.Hash).Write does. -/
import Derived.Test.YtmjaclgbagogfaaDoorShaB
import Derived.Laws.CopyOwn
import Derived.BigRegion
import Derived.RegionTactic
namespace Go.Proofs.YtmjaclgbagogfaaDoor
open Go.RowKit Go.Proofs.YtmjaclgbagogfaaDoor.Sha

theorem hc_list (s : St) (rest : List UInt8) (u n : Int) : hashCells s rest u n = ((s.words.map U) ++ ((rest.map B) ++ [I u, I n])).toArray := by
  simp [hashCells]
theorem words_len (s : St) : (s.words.map U).length = 8 := rfl
theorem hc_rest (s : St) (rest : List UInt8) (u n : Int) (hr : rest.length = 64) (i : Nat) (hi : i < 64) : (hashCells s rest u n)[8 + i]? = some (B (rest.getD i 0)) := by
  rw [hc_list, List.getElem?_toArray, List.getElem?_append_right (by rw [words_len]; omega), words_len, show 8 + i - 8 = i by omega,
    List.getElem?_append_left (by simp; omega), List.getElem?_map, List.getElem?_eq_getElem (by omega), List.getD_eq_getElem?_getD, List.getElem?_eq_getElem (by omega)]
  rfl
theorem hc_used (s : St) (rest : List UInt8) (u n : Int) (hr : rest.length = 64) : (hashCells s rest u n)[72]? = some (I u) := by
  rw [hc_list, List.getElem?_toArray, List.getElem?_append_right (by rw [words_len]; omega), words_len,
    List.getElem?_append_right (by simp; omega), List.length_map, hr]
  rfl
theorem hc_n (s : St) (rest : List UInt8) (u n : Int) (hr : rest.length = 64) : (hashCells s rest u n)[73]? = some (I n) := by
  rw [hc_list, List.getElem?_toArray, List.getElem?_append_right (by rw [words_len]; omega), words_len,
    List.getElem?_append_right (by simp; omega), List.length_map, hr]
  rfl
theorem hc_set_used (s : St) (rest : List UInt8) (u n u' : Int) (hr : rest.length = 64) : (hashCells s rest u n).setIfInBounds 72 (I u') = hashCells s rest u' n := by
  rw [hc_list, hc_list, List.setIfInBounds_toArray, List.set_append_right _ _ (by rw [words_len]; omega), words_len,
    List.set_append_right _ _ (by simp; omega), List.length_map, hr]
  rfl
theorem hc_set_n (s : St) (rest : List UInt8) (u n n' : Int) (hr : rest.length = 64) : (hashCells s rest u n).setIfInBounds 73 (I n') = hashCells s rest u n' := by
  rw [hc_list, hc_list, List.setIfInBounds_toArray, List.set_append_right _ _ (by rw [words_len]; omega), words_len,
    List.set_append_right _ _ (by simp; omega), List.length_map, hr]
  rfl
theorem hc_splice (s : St) (rest x : List UInt8) (u n : Int) (p : Nat) (hr : rest.length = 64) (hp : p + x.length ≤ 64) :
    ((hashCells s rest u n).toList.take (8 + p) ++ (x.map B ++ (hashCells s rest u n).toList.drop (8 + p + (x.map B).length))).toArray = hashCells s (splice rest p x) u n := by
  rw [hc_list, hc_list]
  congr 1
  have e1 : ((s.words.map U) ++ ((rest.map B) ++ [I u, I n])).take (8 + p) = s.words.map U ++ (rest.take p).map B := by
    rw [List.take_append, words_len, List.take_of_length_le (by rw [words_len]; omega), show 8 + p - 8 = p by omega, List.take_append_of_le_length (by simp; omega), List.map_take]
  have e2 : ((s.words.map U) ++ ((rest.map B) ++ [I u, I n])).drop (8 + p + (x.map B).length) = (rest.drop (p + x.length)).map B ++ [I u, I n] := by
    rw [List.drop_append, words_len, List.length_map, List.drop_of_length_le (by rw [words_len]; omega), show 8 + p + x.length - 8 = p + x.length by omega, List.nil_append,
      List.drop_append_of_le_length (by simp; omega), List.map_drop]
  rw [e1, e2]
  simp [splice]
theorem setRow_grown (w : World) (g : Nat) (cs : Array Value) : w.grownBy (w.setRow g cs) (some g) :=
  ⟨rfl, rfl, rfl, by simp [World.setRow], fun k _ hne => setRow_other w g k cs (fun e => hne (by rw [e]))⟩
theorem Blk.setRow {w : World} {g : Nat} {t : TypeId} {cs : Array Value} (h : Blk w g t cs) (cs' : Array Value) : Blk (w.setRow g cs') g t cs' := setRow_heap w g cs cs' t _ h
theorem only_trans {a b c : World} {row : Option Nat} (h : a.grownBy b row) (k : b.grownBy c row) : a.grownBy c row :=
  ⟨k.os.trans h.os, k.tape.trans h.tape, k.output.trans h.output, Nat.le_trans h.size k.size, fun i hi hne => (k.block i (Nat.lt_of_lt_of_le hi h.size) hne).trans (h.block i hi hne)⟩

/-- A hash in memory: its state, the bytes that wait, how many came. -/
def HS (w : World) (hb : Nat) (p : St × List UInt8) (n : Int) : Prop :=
  p.2.length < 64 ∧ ∃ rest : List UInt8, rest.length = 64 ∧ rest.take p.2.length = p.2 ∧ Blk w hb 90 (hashCells p.1 rest p.2.length n)

def lenOf : Value → Nat | .slice _ n _ => n | _ => 0
/-- The bytes at an address, in the world w, apart from block hb. -/
def At (w : World) (hb : Nat) (A : Option Addr) (l : List UInt8) : Prop :=
  l ≠ [] → ∃ b o, A = some ⟨b, o, none⟩ ∧ b < w.heap.size ∧ b ≠ hb ∧ ∀ j, j < l.length → w.cell? ⟨b, o + j, none⟩ = some (B (l.getD j 0))
theorem u8_info : (Tryd.prog.info? 5).map (·.size) = some 1 := by kernel_rfl

set_option maxRecDepth 100000 in
set_option maxHeartbeats 4000000 in
theorem write_any (hb : Nat) (p : St × List UInt8) (n : Int) (A : Option Addr) (cap : Nat) (l : List UInt8) (w : World)
    (hn0 : 0 ≤ n) (hn : n + l.length ≤ 1152921504606846976) (hcap : l.length ≤ cap)
    (hg : 0 < w.heap.size) (hgh : 0 ≠ hb)
    (cg : ∀ i, i < 64 → w.cell? ⟨0, i, none⟩ = some (U (BitVec.ofNat 32 (K.getD i 0))))
    (hA : At w hb A l)
    (hH : HS w hb p n) :
    Calls Tryd.prog 41 #[.pointer (some ⟨hb, 0, none⟩), .slice A l.length cap] w fun e w' => e = .returned (.tuple #[]) ∧
      HS w' hb (l.foldl feed p) (n + l.length) ∧ w.grownBy w' (some hb) := by
  obtain ⟨hp, rest, hr, hrp, hK⟩ := hH
  have cn := (hK.cell 73).trans (hc_n _ _ _ _ hr)
  have fn := hK.frozen 73
  go_enter Tryd.func41, Tryd.ntmps41
  go_wp2_with fail
  have hK1 := hK.set_ 73 (I (n + l.length))
  rw [hc_set_n _ _ _ _ _ hr] at hK1
  have hO1 : w.grownBy (w.setCell ⟨hb, 73, none⟩ (I (n + l.length))) (some hb) := only_setCell (World.grownBy.refl w _) (.inl rfl) _
  clear cn fn
  go_loopw [1] (fun v wr => ∃ (c r : List UInt8) (A' : Option Addr) (cap' : Nat), l = c ++ r ∧ v = .slice A' r.length cap' ∧ r.length ≤ cap' ∧ At w hb A' r ∧ HS wr hb (c.foldl feed p) (n + l.length) ∧ w.grownBy wr (some hb)) (fun v _ => lenOf v)
  case atStart => exact ⟨[], l, A, cap, rfl, rfl, hcap, hA, ⟨hp, rest, hr, hrp, hK1⟩, hO1⟩
  case round =>
    clear hK hK1 hO1 hr hrp rest hA hcap
    obtain ⟨c, r, A', cap', hl, rfl, hcap, hA, hH, hO⟩ := hrel
    have Hl := Lib.hid hl
    clear hl
    obtain ⟨q, hqe⟩ : ∃ q, q = c.foldl feed p := ⟨_, rfl⟩
    rw [← hqe] at hH
    obtain ⟨st, pd⟩ := q
    have Hq := Lib.hid hqe
    clear hqe
    obtain ⟨hq, rest, hr, hrp, hK⟩ := hH
    simp only at hq hrp hK
    by_cases h0 : r = []
    · subst h0
      have hlc : l = c := by have := Hl.out; simpa using this
      go_wp2_with fail
      go_end0
      refine ⟨rfl, ?_, hO⟩
      have e := Hq.out
      rw [← hlc] at e
      rw [← e]
      exact ⟨hq, rest, hr, hrp, hK⟩
    · obtain ⟨b, o, rfl, hb1, hb2, hcell⟩ := hA h0
      have hpos : 0 < r.length := List.length_pos_iff.2 h0
      have cu := (hK.cell 72).trans (hc_used _ _ _ _ hr)
      have fu := hK.frozen 72
      have q0 : 0 ≤ (pd.length : Int) := by omega
      have q64 : (pd.length : Int) ≤ 64 := by omega
      have Hr := Lib.hid hr
      have Hrp := Lib.hid hrp
      clear hr hrp
      have q64' : ¬ (64 = pd.length) := by omega
      obtain ⟨x, hx⟩ : ∃ x, x = r.take (64 - pd.length) := ⟨_, rfl⟩
      have hxl : x.length = min (64 - pd.length) r.length := by rw [hx, List.length_take]
      have hsrc : ∀ j v, (x.map B)[j]? = some v → wr.cell? ((⟨b, o, none⟩ : Addr).add j) = some v := by
        intro j v hv
        have hj : j < x.length := by
          rcases Nat.lt_or_ge j x.length with h | h
          · exact h
          · rw [List.getElem?_eq_none (by simpa using h)] at hv; cases hv
        have hjr : j < r.length := by omega
        have e1 : x[j]? = some (r.getD j 0) := by
          rw [hx, List.getElem?_take_of_lt (by omega), List.getElem?_eq_getElem hjr, List.getD_eq_getElem?_getD, List.getElem?_eq_getElem hjr]; rfl
        rw [List.getElem?_map, e1] at hv
        have e2 : ((⟨b, o, none⟩ : Addr).add j) = ⟨b, o + j, none⟩ := by
          unfold Addr.add; split
          · subst_vars; rfl
          · rfl
        rw [e2, World.cell?_of_block (hO.block b hb1 (fun e => hb2 (by injection e)))]
        rw [← hv]; exact hcell j hjr
      have h1 : ∀ v ∈ x.map B, v.oneCell' = true := by
        intro v hv; obtain ⟨c, _, rfl⟩ := List.mem_map.1 hv; rfl
      have hml : (x.map B).length = Nat.min r.length (64 - pd.length) := by rw [List.length_map, hxl]; exact Nat.min_comm _ _
      have hfit : 8 + pd.length + (x.map B).length ≤ (hashCells st rest pd.length (n + l.length)).size := by
        have e8 : st.words.length = 8 := rfl
        rw [List.length_map, hc_list]; simp [Hr.out]; omega
      have hsp := hc_splice st rest x pd.length (n + l.length) pd.length Hr.out (by omega)
      have m0 : 0 < x.length := by omega
      have m1 : x.length ≤ 64 - pd.length := by omega
      have m2 : x.length ≤ r.length := by omega
      have Hx := Lib.hid hx
      have Hxl := Lib.hid hxl
      have Hml := Lib.hid hml
      have Hfit := Lib.hid hfit
      have Hsp := Lib.hid hsp
      have Hsrc := Lib.hid hsrc
      have H1 := Lib.hid h1
      clear hx hxl hml hfit hsp hsrc h1
      go_wp2_with fail
      go_still_tail 9, (by kernel_rfl)
      refine wpList_copy_own rfl (.tmp 26) (.tmp 27) 31 31 rfl 5 Tryd.underlying31 u8_info hb (8 + pd.length) (64 - pd.length) (64 - pd.length) ⟨b, o, none⟩ r.length cap' rfl rfl
        (hashCells st rest pd.length (n + l.length)) 90 hK (x.map B) Hml.out Hsrc.out Hfit.out H1.out ?_
      rw [Hsp.out, List.length_map]
      have hK2 : Blk (wr.drew.setRow hb (hashCells st (splice rest pd.length x) pd.length (n + l.length))) hb 90 (hashCells st (splice rest pd.length x) pd.length (n + l.length)) := hK.drew.setRow _
      have hO2 : w.grownBy (wr.drew.setRow hb (hashCells st (splice rest pd.length x) pd.length (n + l.length))) (some hb) := only_trans (only_drew hO) (setRow_grown _ _ _)
      have hr2 : (splice rest pd.length x).length = 64 := by rw [length_splice _ _ _ (by rw [Hr.out]; omega), Hr.out]
      have hrp2 : (splice rest pd.length x).take (pd.length + x.length) = pd ++ x := by
        have e := Hrp.out
        unfold splice
        rw [← List.append_assoc, e, List.take_left' (by simp)]
      clear hK hO cu fu Hsp Hsrc H1 Hml Hfit Hr Hrp
      generalize splice rest pd.length x = rest2 at hK2 hO2 hr2 hrp2 ⊢
      change wpList _ _ _ _ _ (wr.drew.setRow hb (hashCells st rest2 pd.length (n + l.length)))
      generalize wr.drew.setRow hb (hashCells st rest2 pd.length (n + l.length)) = W at hK2 hO2 ⊢
      have cu := (hK2.cell 72).trans (hc_used _ _ _ _ hr2)
      have fu := hK2.frozen 72
      have Hr2 := Lib.hid hr2
      have Hrp2 := Lib.hid hrp2
      clear hr2 hrp2
      have e1 : IntKind.i64.wrap ((pd.length : Int) + x.length) = (pd.length : Int) + x.length := IntWalk.i64_in _ (by omega)
      have x0 : 0 ≤ (x.length : Int) := by omega
      have x1 : (x.length : Int) ≤ r.length := by omega
      have x2 : (x.length : Int) ≤ cap' := by omega
      go_wp2_with fail
      go_region
      have hK3 := (hK2.set_ 72 (I ((pd.length : Int) + x.length))).drew
      rw [hc_set_used _ _ _ _ _ Hr2.out] at hK3
      have hO3 := only_drew (only_setCell (p := ⟨hb, 72, none⟩) hO2 (.inl rfl) (I ((pd.length : Int) + x.length)))
      have hA2 : At w hb (if cap' = x.length then some ⟨b, o, none⟩ else some ⟨b, o + x.length, none⟩) (r.drop x.length) := by
        intro hne
        have hlt : x.length < r.length := by
          rcases Nat.lt_or_ge x.length r.length with h | h
          · exact h
          · exact absurd (List.drop_of_length_le h) hne
        rw [if_neg (by omega)]
        refine ⟨b, o + x.length, rfl, hb1, hb2, fun j hj => ?_⟩
        rw [List.length_drop] at hj
        rw [Nat.add_assoc, hcell (x.length + j) (by omega)]
        simp [List.getD_eq_getElem?_getD, List.getElem?_drop]
      generalize (if cap' = x.length then (some ⟨b, o, none⟩ : Option Addr) else some ⟨b, o + x.length, none⟩) = A2 at hA2 ⊢
      have hdl : l = (c ++ x) ++ r.drop x.length := by
        have h1 := Hl.out
        have h2 := Hx.out
        have h3 : x = r.take x.length := by
          have := Hxl.out
          rw [this, h2, List.take_eq_take_iff]; omega
        rw [List.append_assoc]
        conv => rhs; rhs; lhs; rw [h3]
        rw [List.take_append_drop]; exact h1
      have Hdl := Lib.hid hdl
      clear hdl hK2 hO2 cu fu
      have hrl : (r.drop x.length).length = r.length - x.length := List.length_drop
      have hcap2 : r.length - x.length ≤ cap' - x.length := by omega
      by_cases hfull : pd.length + x.length = 64
      · have ht : (((pd.length : Int) + (x.length : Int)) == 64) = true := by simp; omega
        have hxx : rest2 = pd ++ x := by
          have h1 := Hrp2.out
          rw [hfull, List.take_of_length_le (by rw [Hr2.out]; omega)] at h1
          exact h1
        generalize (W.setCell ⟨hb, 72, none⟩ (I ((pd.length : Int) + x.length))).drew = W3 at hK3 hO3 ⊢
        have c72 := (hK3.cell 72).trans (hc_used _ _ _ _ Hr2.out)
        go_wp2_with fail
        refine (mix_any hb hb 8 64 st rest2 rest2 _ _ W3 hK3.lt (fun i hi => (hK3.cell _).trans (hc_rest _ _ _ _ Hr2.out i hi)) (by have := hO3.size; omega)
          (fun i hi => (World.cell?_of_block (hO3.block _ hg (fun e => hgh (by injection e)))).trans (cg i hi)) hK3).mono ?_
        rintro e W4 ⟨rfl, hK4, hO4⟩
        have hK5 := hK4.set_ 72 (I 0)
        rw [hc_set_used _ _ _ _ _ Hr2.out] at hK5
        have hO5 := only_setCell (p := ⟨hb, 72, none⟩) (only_trans hO3 hO4) (.inl rfl) (I 0)
        have c4 := (hK4.cell 72).trans (hc_used _ _ _ _ Hr2.out)
        have f4 := hK4.frozen 72
        clear c72 hK3 hO3 hK4 hO4
        go_wp2_with fail
        refine ⟨⟨c ++ x, r.drop x.length, A2, cap' - x.length, Hdl.out, by rw [hrl], by rw [hrl]; exact hcap2, hA2, ?_, hO5⟩, ?_⟩
        · rw [List.foldl_append, ← Hq.out, feed_full _ _ (by simpa using hq) (by simpa using hfull)]
          refine ⟨by simp, rest2, Hr2.out, by simp, ?_⟩
          rw [← hxx]
          exact hK5
        · simp [lenOf]; omega
      · have ht : (((pd.length : Int) + (x.length : Int)) == 64) = false := by simp; omega
        generalize (W.setCell ⟨hb, 72, none⟩ (I ((pd.length : Int) + x.length))).drew = W3 at hK3 hO3 ⊢
        have c72 := (hK3.cell 72).trans (hc_used _ _ _ _ Hr2.out)
        go_wp2_with fail
        refine ⟨⟨c ++ x, r.drop x.length, A2, cap' - x.length, Hdl.out, by rw [hrl], by rw [hrl]; exact hcap2, hA2, ?_, hO3⟩, ?_⟩
        · have h9 := Hxl.out
          rw [List.foldl_append, ← Hq.out, feed_pend _ _ (by simp; omega)]
          refine ⟨by simp; omega, rest2, Hr2.out, by simpa using Hrp2.out, ?_⟩
          simp only [List.length_append, Int.natCast_add]
          exact hK3
        · simp [lenOf]; omega
end Go.Proofs.YtmjaclgbagogfaaDoor
