/- What the reference's Sum does: the same digest. -/
import Derived.Test.YtmjaclgbagogfaaDoorRShaA
import Derived.Test.YtmjaclgbagogfaaDoorRShaP
namespace Go.Proofs.YtmjaclgbagogfaaDoor
open Go.RowKit Go.Proofs.YtmjaclgbagogfaaDoor.Sha Go.Sort

/-- What the call owns: the text that is padded, and the result's block. -/
def Txt (w0 w : World) (v : Value) (l : List UInt8) : Prop :=
  w.ownsRow w0.heap.size 5 1 v l.length (l.map B) ∧ Below w0.heap.size w0 w ∧ Blk w w0.heap.size 29 (Array.replicate 32 (B 0))
theorem Txt.append {w0 w w1 : World} {v v1 : Value} {l x : List UInt8} {n : Nat} (h : Txt w0 w v l) (hn : n = l.length + x.length) (h1 : w1.ownsRow w0.heap.size 5 1 v1 n (l.map B ++ x.map B)) (hg : w.grownBy w1 v.ownBlock) : Txt w0 w1 v1 (l ++ x) := by
  obtain ⟨a, b, c⟩ := h
  refine ⟨by rw [List.length_append, ← hn, List.map_append]; exact h1, b.grown hg b.size (fun k hk => (a.lt k hk).1), c.grown hg (Ne.symm (own_blk_ne a c (by decide)))⟩
theorem Txt.alloc {w0 w : World} {v : Value} {l : List UInt8} (h : Txt w0 w v l) (o : Obj) : Txt w0 (w.alloc o) v l :=
  ⟨h.1.alloc o, h.2.1.alloc h.2.1.size o, h.2.2.alloc o⟩

theorem Txt.form {w0 w : World} {v : Value} {l : List UInt8} (h : Txt w0 w v l) (hn : 0 < l.length) (n : Nat) (e : l.length = n) : ∃ g cap, v = .slice (some ⟨g, 0, none⟩) n cap := by
  subst e
  obtain ⟨g, cap, hv, _⟩ := h.1.form hn
  exact ⟨g, cap, hv⟩
/-- 'm = append(m, c)'. -/
theorem append_byte {ops : Array Oper} {rest : List Oper} {o : Oper} {a : Act} {Q : Exit → Act → World → Prop} {w0 w : World} (hgd : o.guard = none) (s x : Operand)
    (ho : o.op = .call { callee := .builtin .append, args := #[s, x], argTypes := #[31, 31] }) {v : Value} {l : List UInt8} (hT : Txt w0 w v l) (c : UInt8) (u : Value) (hu : u = B c)
    (hs : a.eval s = v) (hx : a.eval x = .slice (some ⟨w.heap.size, 0, none⟩) 1 1) (hl : l.length ≤ 100000000000000)
    (h : ∀ v' w', Txt w0 w' v' (l ++ [c]) → wpList Tryd.prog ops Q rest (a.put o.dst v') w') : wpList Tryd.prog ops Q (o :: rest) a (w.alloc (.cells #[u] 5)) := by
  subst hu
  obtain ⟨i0, hi0, hz0, hz1, hz2⟩ := info_parts u8_row
  have hT2 := hT.alloc (.cells #[B c] 5)
  refine wpList_append_any _ hgd s x 31 ho w0.heap.size 5 i0 _ 1 1 Tryd.underlying31 hi0 hz0 hz1 hz2 rfl (by decide) v l.length (l.map B) hs hT2.1 _ _ 1 1 [B c] hx (reads_one w (B c) _)
    (fun u hu => by rw [List.mem_singleton.1 hu]; rfl) (by simp [maxLen]; omega) (by omega) hT2.2.1.size ?_
  intro v1 w1 hown1 hg1 _
  exact h v1 w1 (hT2.append (x := [c]) (by simp) hown1 hg1)

theorem turn_still {x : W32} {k : Int} {w : World} (h1 : 1 ≤ k) (h2 : k ≤ 31) :
    Calls Tryd.prog 24 #[U x, .int .u64 k] w fun e w' => e = .returned (U (rotr x k.toNat)) ∧ w' = w := (turn_any x k w h1 h2).mono fun _ _ ⟨h, k⟩ => ⟨h, k.symm⟩
theorem part_val (p : Nat) (c : UInt8) (h : p < 16777216) : bits .or .u32 ((p : Int) * 256 % 4294967296) ((c.toNat : Int) % 4294967296) = ((p * 256 + c.toNat : Nat) : Int) := by
  have hc := c.toNat_lt
  have e1 : (p : Int) * 256 % 4294967296 = ((p * 2 ^ 8 : Nat) : Int) := by omega
  have e2 : (c.toNat : Int) % 4294967296 = ((c.toNat : Nat) : Int) := by omega
  have o : p * 2 ^ 8 ||| c.toNat = p * 2 ^ 8 + c.toNat := by
    rw [Nat.mul_comm, ← Nat.two_pow_add_eq_or_of_lt (by omega)]
  rw [e1, e2, u32_or_nat _ _ (by omega) (by omega), o]
/-- The schedule in memory when t words are there. -/
def Sch (w : World) (g : Nat) (b : List UInt8) (t : Nat) (arr : Array Value) : Prop :=
  Blk w g 63 arr ∧ arr.size = 64 ∧ ∀ j, j < t → arr[j]? = some (U (wt b j))
theorem some_of_lt {arr : Array Value} {i : Nat} (h : i < arr.size) : ∃ u, arr[i]? = some u := ⟨arr[i], Array.getElem?_eq_getElem h⟩
theorem Sch.set {w w' : World} {g : Nat} {b : List UInt8} {t : Nat} {arr : Array Value} (h : Sch w g b t arr) (ht : t < 64) (h' : Blk w' g 63 (arr.setIfInBounds t (U (wt b t)))) : Sch w' g b (t + 1) (arr.setIfInBounds t (U (wt b t))) := by
  refine ⟨h', by simpa using h.2.1, fun j hj => ?_⟩
  rw [Array.getElem?_setIfInBounds]
  by_cases e : t = j
  · subst e; simp [h.2.1, ht]
  · rw [if_neg e]; exact h.2.2 j (by omega)
theorem part_word (b : List UInt8) (t : Nat) (h : t < 16) : Value.int .u32 ((wpart b (4 * t) 4 : Nat) : Int) = U (wt b t) := by
  have h4 := part_lt b (4 * t) 4
  rw [wt_low b t h, word4_part]
  show _ = Value.int .u32 (((BitVec.ofNat 32 (wpart b (4 * t) 4)).toNat : Nat) : Int)
  rw [BitVec.toNat_ofNat, Nat.mod_eq_of_lt (by omega)]
theorem set_same {arr : Array Value} {i : Nat} (h : i < arr.size) (u : Value) : (arr.setIfInBounds i u)[i]? = some u := by simp [h]
theorem set_set (arr : Array Value) (i : Nat) (u v : Value) : (arr.setIfInBounds i u).setIfInBounds i v = arr.setIfInBounds i v := by simp
theorem turn_grow {x : W32} {k : Int} {w : World} (h1 : 1 ≤ k) (h2 : k ≤ 31) :
    Calls Tryd.prog 24 #[U x, .int .u64 k] w fun e w' => e = .returned (U (rotr x k.toNat)) ∧ ∃ q os, w' = grow (w.drewN q) os :=
  (turn_any x k w h1 h2).mono fun _ _ ⟨h, k⟩ => ⟨h, 0, #[], by rw [← k]; simp; rfl⟩
theorem below_grow {b : Nat} {a w : World} (h : Below b a w) (hb : b ≤ w.heap.size) (n : Nat) (os : Array Obj) : Below b a (grow (w.drewN n) os) :=
  h.trans ⟨rfl, rfl, rfl, by simp [grow, World.drewN], fun k hk => heap_grow_old (w.drewN n) os (by exact Nat.lt_of_lt_of_le hk hb)⟩
theorem blk_grow {w : World} {g : Nat} {t : TypeId} {cs : Array Value} (h : Blk w g t cs) (n : Nat) (os : Array Obj) : Blk (grow (w.drewN n) os) g t cs :=
  (heap_grow_old (w.drewN n) os (by exact h.lt)).trans h
/-- The shift: from place k on the words stand one place on. -/
def shArr (r : St) (k : Nat) : Array Value := ((List.range 8).map fun j => U (if j ≤ k then r.words.getD j 0 else r.words.getD (j - 1) 0)).toArray
theorem sh_start (r : St) : shArr r 7 = stCells r := rfl
theorem sh_get (r : St) (k : Nat) (h : k < 8) : (shArr r k)[k]? = some (U (r.words.getD k 0)) := by
  rcases below8 h with rfl | rfl | rfl | rfl | rfl | rfl | rfl | rfl <;> rfl
theorem sh_get1 (r : St) (k : Nat) (h : k < 8) (h1 : 0 < k) : (shArr r k)[k - 1]? = some (U (r.words.getD (k - 1) 0)) := by
  rcases below8 h with rfl | rfl | rfl | rfl | rfl | rfl | rfl | rfl <;> first | rfl | omega
theorem sh_set (r : St) (k : Nat) (h : k < 8) (h1 : 0 < k) : (shArr r k).setIfInBounds k (U (r.words.getD (k - 1) 0)) = shArr r (k - 1) := by
  rcases below8 h with rfl | rfl | rfl | rfl | rfl | rfl | rfl | rfl <;> first | rfl | omega
theorem sh_end (r : St) : shArr r 0 = #[U r.a, U r.a, U r.b, U r.c, U r.d, U r.e, U r.f, U r.g] := rfl
theorem sh_sets (v0 v4 a b c d e f g : Value) : ((#[a, a, b, c, d, e, f, g] : Array Value).setIfInBounds 4 v4).setIfInBounds 0 v0 = #[v0, a, b, c, v4, e, f, g] := by simp
def addArr (s r : St) (k : Nat) : Array Value := ((List.range 8).map fun j => U (if j < k then s.words.getD j 0 + r.words.getD j 0 else s.words.getD j 0)).toArray
theorem addArr_get (s r : St) (k : Nat) (h : k < 8) : (addArr s r k)[k]? = some (U (s.words.getD k 0)) := by
  rcases below8 h with rfl | rfl | rfl | rfl | rfl | rfl | rfl | rfl <;> rfl
theorem addArr_set (s r : St) (k : Nat) (h : k < 8) : (addArr s r k).setIfInBounds k (U (s.words.getD k 0 + r.words.getD k 0)) = addArr s r (k + 1) := by
  rcases below8 h with rfl | rfl | rfl | rfl | rfl | rfl | rfl | rfl <;> rfl
theorem addArr_all (s r : St) : addArr s r 8 = stCells (addSt s r) := rfl
/-- The digest's bytes when i are there. -/
def outB (s : St) (i : Nat) : Array Value := ((s.out.take i).map B ++ List.replicate (32 - i) (B 0)).toArray
theorem outB_get (s : St) (i : Nat) (h : i < 32) : (outB s i)[i]? = some (B 0) := by
  have hl := out_length s
  unfold outB
  rw [List.getElem?_toArray, List.getElem?_append_right (by simp; omega), List.length_map, List.length_take, hl, show i - min i 32 = 0 by omega, show 32 - i = (31 - i) + 1 by omega, List.replicate_succ]
  rfl
theorem outB_set (s : St) (i : Nat) (h : i < 32) : (outB s i).setIfInBounds i (B (s.out.getD i 0)) = outB s (i + 1) := by
  have hl := out_length s
  unfold outB
  rw [List.setIfInBounds_toArray]
  congr 1
  rw [List.set_append_right _ _ (by simp; omega), List.length_map, List.length_take, show i - min i s.out.length = 0 by omega,
    show 32 - i = (32 - (i + 1)) + 1 by omega, List.replicate_succ, List.set_cons_zero, List.take_succ_eq_append_getElem (by omega), List.map_append, List.append_assoc]
  simp [List.getD_eq_getElem?_getD, List.getElem?_eq_getElem (show i < s.out.length by omega)]
theorem outB_all (s : St) : outB s 32 = (s.out.map B).toArray := by
  unfold outB; rw [List.take_of_length_le (by rw [out_length]; omega)]; simp
theorem out_at (s : St) (i : Nat) (h : i < 32) : ((s.words.getD (i / 4) 0#32).toNat : Int) / 2 ^ (24 - 8 * (i % 4)) % 256 = ((s.out.getD i 0).toNat : Int) := by
  obtain ⟨k, j, hk, hj, rfl⟩ : ∃ k j, k < 8 ∧ j < 4 ∧ i = 4 * k + j := ⟨i / 4, i % 4, by omega, by omega, by omega⟩
  have e1 : (4 * k + j) / 4 = k := by omega
  have e2 : (4 * k + j) % 4 = j := by omega
  rw [e1, e2]
  have hj4 : j = 0 ∨ j = 1 ∨ j = 2 ∨ j = 3 := by omega
  have e : s.out.getD (4 * k + j) 0 = UInt8.ofNat ((s.words.getD k 0#32).toNat / 2 ^ (24 - 8 * j)) := by
    rcases below8 hk with rfl | rfl | rfl | rfl | rfl | rfl | rfl | rfl <;> rcases hj4 with rfl | rfl | rfl | rfl <;> simp [St.out, St.words, bytes4]
  rw [e]
  generalize s.words.getD k 0#32 = x
  rcases hj4 with rfl | rfl | rfl | rfl <;> simp [UInt8.toNat_ofNat']
/-- The text in memory. -/
def Mem (w : World) (g : Nat) (L : List UInt8) : Prop := g < w.heap.size ∧ ∀ j, j < L.length → w.cell? ⟨g, j, none⟩ = some (B (L.getD j 0))
theorem Txt.mem {w0 w : World} {g n cap : Nat} {l : List UInt8} (h : Txt w0 w (.slice (some ⟨g, 0, none⟩) n cap) l) (hn : l.length = n) : Mem w g l := by
  subst hn
  refine ⟨(h.1.lt g rfl).2, fun j hj => ?_⟩
  have := h.1.cellAt j (by omega)
  rw [this, List.getElem?_map, List.getD_eq_getElem?_getD, List.getElem?_eq_getElem hj]; rfl

set_option maxRecDepth 100000 in
set_option maxHeartbeats 4000000 in
theorem rsum_any (A : Option Addr) (cap : Nat) (l : List UInt8) (w : World) (hl : l.length ≤ 70368744177664) (hA : In w A l) :
    Calls Tryd.prog 10 #[.slice A l.length cap] w fun e w' => e = .returned (encD (digest l)) ∧ Below w.heap.size w w' := by
  obtain ⟨i0, hi0, hz0, hz1, hz2⟩ := info_parts u8_row
  have hT0 : Txt w ((w.alloc (.cells (Array.replicate 32 (B 0)) 29)).alloc (.cells #[] 5)) (.slice (some ⟨w.heap.size + 1, 0, none⟩) 0 0) [] := by
    refine ⟨?_, ((Below.refl _ w).alloc (Nat.le_refl _) _).alloc (by simp) _, heap_alloc2_old w _ _⟩
    have := own_made (w.alloc (.cells (Array.replicate 32 (B 0)) 29)) w.heap.size 5 (by simp)
    rwa [World.size_alloc] at this
  have hR0 := (hA.below hT0.2.1).reads
  have h63 : ([] : List UInt8).length + l.length ≤ maxLen := by simp [maxLen]; omega
  have hby : (([] : List UInt8).length + l.length) * 1 ≤ 140737488355328 := by simp; omega
  have hsz0 : w.heap.size ≤ ((w.alloc (.cells (Array.replicate 32 (B 0)) 29)).alloc (.cells #[] 5)).heap.size := hT0.2.1.size
  have H63 := Lib.hid h63
  have Hby := Lib.hid hby
  have Hb1 := Lib.hid (bytes_one l)
  clear h63 hby
  go_enter Tryd.func10, Tryd.ntmps10
  go_wp2_with (first
    | (at_builtin
       refine wpList_append_any _ rfl (.tmp 23) (.tmp 24) 31 rfl w.heap.size 5 i0 _ 1 1 Tryd.underlying31 hi0 hz0 hz1 hz2 rfl (by decide) (.slice (some ⟨w.heap.size + 1, 0, none⟩) 0 0) 0 [] rfl hT0.1 _ A l.length cap (l.map B) rfl hR0 Hb1.out H63.out Hby.out hsz0 ?_
       intro v1 w1 hown1 hg1 hat1
       have hT1 : Txt w w1 v1 ([] ++ l) := hT0.append (by simp) hown1 hg1
       rw [List.nil_append] at hT1
       clear hown1 hg1 hat1 hT0 hR0 hsz0)
    | (at_builtin
       refine append_byte rfl (.tmp 26) (.tmp 27) rfl hT1 128 _ rfl rfl rfl (by omega) ?_
       intro v2 w2 hT2
       clear hT1))
  clear hA
  obtain ⟨g2, cap2, hv2⟩ := hT2.form (by simp) (l.length + 1) (by simp)
  subst hv2
  go_loopw [3] (fun m wr => ∃ j g cp : Nat, j ≤ zeros l.length ∧ m = .slice (some ⟨g, 0, none⟩) (l.length + 1 + j) cp ∧ Txt w wr m (l ++ 128 :: List.replicate j 0)) (fun m _ => l.length + 1 + zeros l.length - lenOf m)
  case atStart => exact ⟨0, g2, cap2, by omega, rfl, hT2⟩
  case round =>
    clear hT2
    obtain ⟨j, g, cp, hj, rfl, hT⟩ := hrel
    have hz63 : zeros l.length < 64 := by unfold zeros; omega
    by_cases hlt : j < zeros l.length
    · have ht : ((((l.length : Int) + 1 + (j : Int)) % 64) != 56) = true := by
        rw [bne_iff_ne]; unfold zeros at hlt; omega
      go_wp2_with (
        (at_builtin
         refine append_byte rfl (.tmp 33) (.tmp 34) rfl hT 0 _ rfl rfl rfl (by simp; omega) ?_
         intro v3 w3 hT3
         clear hT))
      have e1 : (l ++ 128 :: List.replicate j 0) ++ [0] = l ++ 128 :: List.replicate (j + 1) 0 := by
        rw [List.replicate_succ']; simp
      rw [e1] at hT3
      obtain ⟨g3, cap3, hv3⟩ := hT3.form (by simp; omega) (l.length + 1 + (j + 1)) (by simp; omega)
      subst hv3
      refine ⟨⟨j + 1, g3, cap3, by omega, rfl, hT3⟩, by simp [lenOf]; omega⟩
    · have ht : ((((l.length : Int) + 1 + (j : Int)) % 64) != 56) = false := by
        rw [bne_eq_false_iff_eq]; unfold zeros at hlt hj; omega
      obtain rfl : j = zeros l.length := by omega
      clear hlt hj
      go_wp2_with fail
      obtain ⟨T, hTT⟩ : ∃ T, T = l ++ 128 :: List.replicate (zeros l.length) 0 := ⟨_, rfl⟩
      rw [← hTT] at hT
      have hTl : T.length = l.length + 1 + zeros l.length := by rw [hTT]; simp; omega
      have HTT := Lib.hid hTT
      have HTl := Lib.hid hTl
      clear hTT hTl
      go_loopw [5, 3] (fun i m wr => ∃ k g cp : Nat, k ≤ 8 ∧ i = I k ∧ m = .slice (some ⟨g, 0, none⟩) (l.length + 1 + zeros l.length + k) cp ∧ Txt w wr m (T ++ (size8 l.length).take k)) (fun i _ _ => 8 - (intOf i).toNat)
      case atStart => exact ⟨0, g, cp, by omega, rfl, rfl, by simpa using hT⟩
      case round =>
        clear hT
        obtain ⟨k, g, cp, hk, rfl, rfl, hT⟩ := hrel
        by_cases hlt : k < 8
        · have hv := shr_size l.length k hlt (by omega)
          have s1 : IntKind.i64.wrap (8 * (k : Int)) = 8 * k := IntWalk.i64_in _ (by omega)
          have s2 : IntKind.i64.wrap (56 - 8 * (k : Int)) = 56 - 8 * k := IntWalk.i64_in _ (by omega)
          have Hv := Lib.hid (congrArg (Value.int .u8) hv)
          have hlen : (T ++ (size8 l.length).take k).length ≤ 100000000000000 := by
            have := HTl.out
            have h8 : (size8 l.length).length = 8 := rfl
            simp only [List.length_append, List.length_take, h8]; omega
          have Hlen := Lib.hid hlen
          clear hv hlen
          go_wp2_with (
            (at_builtin
             refine append_byte rfl (.tmp 44) (.tmp 52) rfl hT (UInt8.ofNat (l.length * 8 % 18446744073709551616 / 2 ^ (56 - 8 * k))) _ Hv.out rfl rfl Hlen.out ?_
             intro v3 w3 hT3
             clear hT))
          have e1 : (T ++ (size8 l.length).take k) ++ [UInt8.ofNat (l.length * 8 % 18446744073709551616 / 2 ^ (56 - 8 * k))] = T ++ (size8 l.length).take (k + 1) := by
            rw [List.append_assoc]
            congr 1
            rw [List.take_succ_eq_append_getElem (by exact hlt)]
            congr 2
            simp [size8]
          rw [e1] at hT3
          have hTl := HTl.out
          have h8 : (size8 l.length).length = 8 := rfl
          obtain ⟨g3, cap3, hv3⟩ := hT3.form (by simp only [List.length_append, List.length_take, h8]; omega) (l.length + 1 + zeros l.length + (k + 1)) (by simp only [List.length_append, List.length_take, h8]; omega)
          subst hv3
          refine ⟨⟨k + 1, g3, cap3, by omega, by go_num, rfl, hT3⟩, by simp [intOf]; omega⟩
        · obtain rfl : k = 8 := by omega
          clear hlt hk
          have hp : T ++ (size8 l.length).take 8 = pad l := by
            rw [HTT.out, List.take_of_length_le (Nat.le_refl 8)]; simp [pad]
          rw [hp] at hT
          have hpl := pad_length l
          rw [← hpl] at hT ⊢
          have hM := hT.mem rfl
          have hB0 := hT.2.1
          have hR0 := hT.2.2
          have hmod := pad_mod l
          have hdg := digest_blks l
          have hPl : (pad l).length ≤ 100000000000000 := by rw [hpl]; have : zeros l.length < 64 := by unfold zeros; omega
                                                            omega
          generalize pad l = P at hM hmod hdg hPl ⊢
          obtain ⟨Q, hQ⟩ : ∃ Q, Q = P.length / 64 := ⟨_, rfl⟩
          rw [← hQ] at hdg
          have hQ2 : 64 * Q = P.length := by omega
          have Hdg := Lib.hid hdg
          have HQ := Lib.hid hQ2
          have hPQ : P.length ≤ 64 * Q := by omega
          have hQP : 64 * Q ≤ P.length := by omega
          clear hT hp hpl hmod hdg hQ hQ2 HTT HTl
          obtain ⟨W0, hW0⟩ : ∃ W0, W0 = wr := ⟨_, rfl⟩
          rw [← hW0] at hM hB0 hR0 ⊢
          clear hW0
          simp only [Int.cast_ofNat_Int]
          go_wp2_with fail
          go_loopw [8] (fun i wr => ∃ (q : Nat) (arr : Array Value), q ≤ Q ∧ i = I (64 * (q : Int)) ∧ Below W0.heap.size W0 wr ∧ Blk wr W0.heap.size 62 (stCells (blks P q)) ∧ Sch wr (W0.heap.size + 1) [] 0 arr ∧ W0.heap.size + 2 ≤ wr.heap.size) (fun i _ => 64 * Q - (intOf i).toNat)
          case atStart =>
            refine ⟨0, Array.replicate 64 (.int .u32 0), by omega, rfl, ((Below.refl _ _).alloc (Nat.le_refl _) _).alloc (by simp) _, ?_, ⟨?_, rfl, fun j hj => absurd hj (by omega)⟩, by simp⟩
            · exact heap_alloc2_old W0 _ _
            · exact heap_alloc2_new W0 _ _
          case round =>
            obtain ⟨q, arr0, hq, rfl, hB, hH, hS0, hz⟩ := hrel
            by_cases hlt : q < Q
            · have hin : 64 * q + 64 ≤ P.length := by omega
              have ht : ((64 * (q : Int)) < (P.length : Int)) := by omega
              obtain ⟨b, hb⟩ : ∃ b, b = (P.drop (64 * q)).take 64 := ⟨_, rfl⟩
              have hbl : b.length = 64 := by rw [hb, List.length_take, List.length_drop]; omega
              have hbg : ∀ j, j < 64 → b.getD j 0 = P.getD (64 * q + j) 0 := fun j hj => by rw [hb]; exact getD_block P q j hj
              have Hb := Lib.hid hb
              have Hbl := Lib.hid hbl
              have Hbg := Lib.hid hbg
              clear hb hbl hbg
              go_wp2_with fail
              obtain ⟨W1, hW1⟩ : ∃ W1, W1 = wr := ⟨_, rfl⟩
              rw [← hW1] at hB hH hS0 hz ⊢
              clear hW1
              go_loopw [9, 10, 11, 12] (fun i _ _ _ wr => ∃ (t : Nat) (arr : Array Value), t ≤ 64 ∧ i = I t ∧ Below W0.heap.size W0 wr ∧ Blk wr W0.heap.size 62 (stCells (blks P q)) ∧ Sch wr (W0.heap.size + 1) b t arr ∧ W0.heap.size + 2 ≤ wr.heap.size) (fun i _ _ _ _ => 64 - (intOf i).toNat)
              case atStart => exact ⟨0, arr0, by omega, rfl, hB, hH, ⟨hS0.1, hS0.2.1, fun j hj => absurd hj (by omega)⟩, hz⟩
              case round =>
                clear hB hH hS0 hz
                obtain ⟨t, arr, ht64, rfl, hB, hH, hS, hz⟩ := hrel
                by_cases hlt2 : t < 64
                · have t0 : 0 ≤ (t : Int) := by omega
                  have t64 : (t : Int) < 64 := by omega
                  obtain ⟨ut, hut⟩ := some_of_lt (arr := arr) (i := t) (by rw [hS.2.1]; exact hlt2)
                  have ct := (hS.1.cell t).trans hut
                  have ft := hS.1.frozen t
                  by_cases h16 : t < 16
                  · have hts : t < arr.size := by rw [hS.2.1]; exact hlt2
                    have hp0 : wpart b (4 * t) 0 = 0 := rfl
                    have d16 : decide ((t : Int) < 16) = true := by simp; omega
                    go_wp2_with fail
                    go_loopw [10] (fun i wr => ∃ k : Nat, k ≤ 4 ∧ i = I k ∧ Below W0.heap.size W0 wr ∧ Blk wr W0.heap.size 62 (stCells (blks P q)) ∧ Blk wr (W0.heap.size + 1) 63 (arr.setIfInBounds t (.int .u32 ((wpart b (4 * t) k : Nat) : Int))) ∧ W0.heap.size + 2 ≤ wr.heap.size) (fun i _ => 4 - (intOf i).toNat)
                    case atStart => exact ⟨0, by omega, rfl, hB.setCell (by simp) _, hH.far (by simp) _, hp0 ▸ hS.1.set_ t _, by simpa using hz⟩
                    case round =>
                      clear hB hH hz hp0 hut ct ft
                      have HS := Lib.hid hS
                      clear hS
                      obtain ⟨k, hk4, rfl, hB, hH, hA2, hz⟩ := hrel
                      by_cases hlt3 : k < 4
                      · have s1 : IntKind.i64.wrap (4 * (t : Int)) = 4 * t := IntWalk.i64_in _ (by omega)
                        have s2 : IntKind.i64.wrap (64 * (q : Int) + 4 * (t : Int)) = 64 * q + 4 * t := IntWalk.i64_in _ (by omega)
                        have s3 : IntKind.i64.wrap (64 * (q : Int) + 4 * (t : Int) + (k : Int)) = 64 * q + 4 * t + k := IntWalk.i64_in _ (by omega)
                        have n3 : (64 * (q : Int) + 4 * (t : Int) + (k : Int)).toNat = 64 * q + 4 * t + k := by omega
                        have b0 : 0 ≤ 64 * (q : Int) + 4 * (t : Int) + (k : Int) := by omega
                        have b1 : 64 * (q : Int) + 4 * (t : Int) + (k : Int) < (P.length : Int) := by omega
                        have ct := (hA2.cell t).trans (set_same hts _)
                        have ft := hA2.frozen t
                        have cm := (hB.cell (p := ⟨g, 64 * q + 4 * t + k, none⟩) hM.1).trans (hM.2 _ (by omega))
                        have Hbk := Lib.hid (Hbg.out (4 * t + k) (by omega))
                        go_wp2_with fail
                        go_still_tail 17, (by kernel_rfl)
                        go_wp2_with fail
                        have hpl := part_lt b (4 * t) k
                        have hpl2 : wpart b (4 * t) k < 16777216 := by
                          have : (256 : Nat) ^ k ≤ 256 ^ 3 := Nat.pow_le_pow_right (by omega) (by omega)
                          omega
                        have hpv := part_val (wpart b (4 * t) k) (b.getD (4 * t + k) 0) hpl2
                        rw [Hbk.out, List.getD_eq_getElem?_getD, show 64 * q + (4 * t + k) = 64 * q + 4 * t + k by omega] at hpv
                        rw [hpv]
                        refine ⟨⟨k + 1, by omega, by go_num, (hB.setCell (by simp) _).drew, (hH.far (by simp) _).drew, ?_, by simpa using hz⟩, by simp [intOf]; omega⟩
                        have h9 := (hA2.set_ t (.int .u32 ((wpart b (4 * t) (k + 1) : Nat) : Int))).drew
                        rw [set_set, wpart, Hbk.out, List.getD_eq_getElem?_getD, show 64 * q + (4 * t + k) = 64 * q + 4 * t + k by omega] at h9
                        rw [wpart, Hbk.out, List.getD_eq_getElem?_getD, show 64 * q + (4 * t + k) = 64 * q + 4 * t + k by omega]
                        exact h9
                      · obtain rfl : k = 4 := by omega
                        clear hlt3 hk4
                        rw [part_word b t h16] at hA2
                        have hS2 := HS.out.set hlt2 hA2
                        go_wp2_with fail
                        refine ⟨⟨t + 1, _, by omega, by go_num, hB, hH, hS2, hz⟩, by simp [intOf]; omega⟩
                  · have zz : True := trivial
                    have s2 : IntKind.i64.wrap ((t : Int) - 2) = t - 2 := IntWalk.i64_in _ (by omega)
                    have s7 : IntKind.i64.wrap ((t : Int) - 7) = t - 7 := IntWalk.i64_in _ (by omega)
                    have s15 : IntKind.i64.wrap ((t : Int) - 15) = t - 15 := IntWalk.i64_in _ (by omega)
                    have s16 : IntKind.i64.wrap ((t : Int) - 16) = t - 16 := IntWalk.i64_in _ (by omega)
                    have t2 : ((t : Int) - 2).toNat = t - 2 := by omega
                    have t7 : ((t : Int) - 7).toNat = t - 7 := by omega
                    have t15 : ((t : Int) - 15).toNat = t - 15 := by omega
                    have t16 : ((t : Int) - 16).toNat = t - 16 := by omega
                    have b2 : 2 ≤ (t : Int) := by omega
                    have b7 : 7 ≤ (t : Int) := by omega
                    have b15 : 15 ≤ (t : Int) := by omega
                    have b16 : 16 ≤ (t : Int) := by omega
                    have e2 : 0 ≤ (t : Int) - 2 := by omega
                    have e7 : 0 ≤ (t : Int) - 7 := by omega
                    have e15 : 0 ≤ (t : Int) - 15 := by omega
                    have e16 : 0 ≤ (t : Int) - 16 := by omega
                    have d2 : (t : Int) - 2 < 64 := by omega
                    have d7 : (t : Int) - 7 < 64 := by omega
                    have d15 : (t : Int) - 15 < 64 := by omega
                    have d16 : (t : Int) - 16 < 64 := by omega
                    have c2 := (hS.1.cell (t - 2)).trans (hS.2.2 (t - 2) (by omega))
                    have c7 := (hS.1.cell (t - 7)).trans (hS.2.2 (t - 7) (by omega))
                    have c15 := (hS.1.cell (t - 15)).trans (hS.2.2 (t - 15) (by omega))
                    have c16 := (hS.1.cell (t - 16)).trans (hS.2.2 (t - 16) (by omega))
                    have HS := Lib.hid hS
                    clear hS hut
                    go_wp2_with fail
                    refine wp_region_still_tail 29 (by kernel_rfl) (by kernel_rfl) ?_
                    simp only [List.take_succ_cons, List.take_zero, List.drop_succ_cons, List.drop_zero]
                    repeat (first | still_step | still_call (turn_still (by omega) (by omega)))
                    try refine wpStill_nil ?_
                    go_wp2_with fail
                    rw [sched_val, ← wt_high b t (by omega)]
                    have hS2 := HS.out.set hlt2 (HS.out.1.set_ t _).drew
                    refine ⟨⟨t + 1, _, by omega, by go_num, (hB.setCell (by simp) _).drew, (hH.far (by simp) _).drew, hS2, by simpa using hz⟩, by simp [intOf]; omega⟩
                · obtain rfl : t = 64 := by omega
                  clear hlt2 ht64
                  simp only [Int.cast_ofNat_Int]
                  obtain ⟨h0, h1, h2, h3, h4, h5, h6, h7⟩ := st_cells hH
                  go_wp2_with fail
                  obtain ⟨S1, hS1⟩ : ∃ S1, S1 = wr.heap.size := ⟨_, rfl⟩
                  rw [← hS1]
                  obtain ⟨st, hst⟩ : ∃ st, st = blks P q := ⟨_, rfl⟩
                  rw [← hst] at hH h0 h1 h2 h3 h4 h5 h6 h7 ⊢
                  have Hst := Lib.hid hst
                  clear hst h0 h1 h2 h3 h4 h5 h6 h7
                  have hS1z : W0.heap.size + 2 ≤ S1 := by omega
                  go_loopw [14, 15, 16, 17, 18, 19] (fun i _ _ _ _ _ wr => ∃ t : Nat, t ≤ 64 ∧ i = I t ∧ Below W0.heap.size W0 wr ∧ Blk wr W0.heap.size 62 (stCells st) ∧ Sch wr (W0.heap.size + 1) b 64 arr ∧ Blk wr S1 62 (stCells (rnds b st t))) (fun i _ _ _ _ _ _ => 64 - (intOf i).toNat)
                  case atStart => exact ⟨0, by omega, rfl, hB.alloc (by omega) _, hH.alloc _, ⟨hS.1.alloc _, hS.2.1, hS.2.2⟩, hS1 ▸ Blk.new _ _ _⟩
                  case round =>
                    clear hB hH hS hz hS1
                    obtain ⟨t, ht64, rfl, hB, hH, hS, hR⟩ := hrel
                    obtain ⟨r, hr⟩ : ∃ r, r = rnds b st t := ⟨_, rfl⟩
                    rw [← hr] at hR
                    have Hr := Lib.hid hr
                    clear hr
                    by_cases hlt2 : t < 64
                    · have zz : True := trivial
                      have t0 : 0 ≤ (t : Int) := by omega
                      have t64 : (t : Int) < 64 := by omega
                      have hSl := hR.lt
                      have hWl := hS.1.lt
                      obtain ⟨c0, c1, c2, c3, c4, c5, c6, c7⟩ := st_cells hR
                      have g5 := cell_grown (w := wr) (a := ⟨S1, 5, none⟩) hSl c5
                      have g6 := cell_grown (w := wr) (a := ⟨S1, 6, none⟩) hSl c6
                      have g7 := cell_grown (w := wr) (a := ⟨S1, 7, none⟩) hSl c7
                      have gw := cell_grown (w := wr) (a := ⟨W0.heap.size + 1, t, none⟩) hWl ((hS.1.cell t).trans (hS.2.2 t hlt2))
                      have mixed : Tryd.prog.follows .mixedOrders = true := by kernel_rfl
                      go_wp2_with fail
                      go_quiet_grown ((first | (go_at_call 24; exact Calls.grown_of (turn_grow (by omega) (by omega))) | (go_at_call 25; exact Calls.grown_of (const_any _ _ hlt2))))
                      obtain ⟨W4, hW4⟩ : ∃ W4, W4 = grow (wr.drewN nq) osq := ⟨_, rfl⟩
                      change Exit.then _ _ _ _ (grow (wr.drewN nq) osq)
                      rw [← hW4]
                      have hB4 : Below W0.heap.size W0 W4 := hW4 ▸ below_grow hB (by omega) nq osq
                      have hH4 : Blk W4 W0.heap.size 62 (stCells st) := hW4 ▸ blk_grow hH nq osq
                      have hS4 : Sch W4 (W0.heap.size + 1) b 64 arr := ⟨hW4 ▸ blk_grow hS.1 nq osq, hS.2.1, hS.2.2⟩
                      have hR4 : Blk W4 S1 62 (stCells r) := hW4 ▸ blk_grow hR nq osq
                      clear hW4 hB hH hS hR c0 c1 c2 c3 c4 c5 c6 c7 g5 g6 g7 gw hSl hWl mixed
                      obtain ⟨o1, ho1, hv1⟩ := one_val r.h r.e r.f r.g (wt b t) (K[t]?.getD 0)
                      obtain ⟨c0, c1, c2, c3, c4, c5, c6, c7⟩ := st_cells hR4
                      go_wp2_with fail
                      go_quiet ((go_at_call 24; exact quiet_left (turn_any _ _ _ (by omega) (by omega))))
                      clear c0 c1 c2 c3 c4 c5 c6 c7
                      replace hB4 := Below.drewN hB4 nq
                      replace hH4 := hH4.drewN nq
                      have hS5 : Sch (W4.drewN nq) (W0.heap.size + 1) b 64 arr := ⟨hS4.1.drewN nq, hS4.2.1, hS4.2.2⟩
                      replace hR4 := hR4.drewN nq
                      generalize W4.drewN nq = W5 at hB4 hH4 hS5 hR4 ⊢
                      clear hS4
                      go_wp2_with fail
                      go_loopw [19] (fun i wr => ∃ k : Nat, k ≤ 7 ∧ i = I k ∧ Below W0.heap.size W0 wr ∧ Blk wr W0.heap.size 62 (stCells st) ∧ Sch wr (W0.heap.size + 1) b 64 arr ∧ Blk wr S1 62 (shArr r k)) (fun i _ => (intOf i).toNat)
                      case atStart => exact ⟨7, by omega, rfl, hB4, hH4, hS5, hR4⟩
                      case round =>
                        clear hB4 hH4 hS5 hR4
                        obtain ⟨k, hk7, rfl, hB, hH, hS, hR⟩ := hrel
                        by_cases hlt3 : 0 < k
                        · have c1 := (hR.cell (k - 1)).trans (sh_get1 r k (by omega) hlt3)
                          have c2 := (hR.cell k).trans (sh_get r k (by omega))
                          have f2 := hR.frozen k
                          have k0 : 0 < (k : Int) := by omega
                          have k1 : 1 ≤ (k : Int) := by omega
                          have k8 : (k : Int) < 8 := by omega
                          have n1 : ((k : Int) - 1).toNat = k - 1 := by omega
                          go_wp2_with fail
                          have hR2 := hR.set_ k (U (r.words.getD (k - 1) 0))
                          rw [sh_set r k (by omega) hlt3, List.getD_eq_getElem?_getD] at hR2
                          refine ⟨⟨k - 1, by omega, by congr 1; omega, hB.setCell (by simp; omega) _, hH.far (by simp; omega) _, ⟨hS.1.far (by simp; omega) _, hS.2.1, hS.2.2⟩, hR2⟩, by simp [intOf]; omega⟩
                        · obtain rfl : k = 0 := by omega
                          clear hlt3 hk7
                          rw [sh_end] at hR
                          have c0 := (hR.cell 0).trans rfl
                          have c4 : wr.cell? ⟨S1, 4, none⟩ = some (U r.d) := (hR.cell 4).trans rfl
                          have c0 : wr.cell? ⟨S1, 0, none⟩ = some (U r.a) := (hR.cell 0).trans rfl
                          have f0 := hR.frozen 0
                          have f4 := hR.frozen 4
                          go_wp2_with fail
                          rw [show IntKind.u32.max = 4294967295 from rfl] at ho1
                          obtain ⟨o2, ho2, hv2⟩ := two_val r.a r.b r.c
                          rw [ho1, ho2]
                          clear ho1 ho2
                          have e1 : (o1 + o2) % 4294967296 = (((r.h + bsig1 r.e + ch r.e r.f r.g + BitVec.ofNat 32 (K[t]?.getD 0) + wt b t) + (bsig0 r.a + maj r.a r.b r.c)).toNat : Int) := by
                            rw [← add_val, ← hv1, ← hv2]; omega
                          have e2 : ((r.d.toNat : Int) + o1) % 4294967296 = ((r.d + (r.h + bsig1 r.e + ch r.e r.f r.g + BitVec.ofNat 32 (K[t]?.getD 0) + wt b t)).toNat : Int) := by
                            rw [← add_val, ← hv1]; omega
                          have hR2 := (hR.set_ 4 (.int .u32 (((r.d.toNat : Int) + o1) % 4294967296))).set_ 0 (.int .u32 ((o1 + o2) % 4294967296))
                          rw [sh_sets] at hR2
                          have hge : W0.heap.size ≤ S1 := by omega
                          have hn1 : W0.heap.size ≠ S1 := by omega
                          have hn2 : W0.heap.size + 1 ≠ S1 := by omega
                          refine ⟨⟨t + 1, by omega, by go_num, (hB.setCell hge _).setCell hge _, (hH.far hn1 _).far hn1 _, ⟨(hS.1.far hn2 _).far hn2 _, hS.2.1, hS.2.2⟩, ?_⟩, by simp [intOf]; omega⟩
                          rw [rnds, ← Hr.out]
                          rw [e1, e2] at hR2 ⊢
                          rw [List.getD_eq_getElem?_getD]
                          exact hR2
                    · obtain rfl : t = 64 := by omega
                      clear hlt2 ht64
                      simp only [Int.cast_ofNat_Int]
                      go_wp2_with fail
                      go_loopw [20] (fun i wr => ∃ k : Nat, k ≤ 8 ∧ i = I k ∧ Below W0.heap.size W0 wr ∧ Blk wr W0.heap.size 62 (addArr st r k) ∧ Sch wr (W0.heap.size + 1) b 64 arr ∧ Blk wr S1 62 (stCells r)) (fun i _ => 8 - (intOf i).toNat)
                      case atStart => exact ⟨0, by omega, rfl, hB, hH, hS, hR⟩
                      case round =>
                        clear hB hH hS hR
                        obtain ⟨k, hk8, rfl, hB, hH, hS, hR⟩ := hrel
                        by_cases hlt3 : k < 8
                        · have k0 : 0 ≤ (k : Int) := by omega
                          have k8 : (k : Int) < 8 := by omega
                          have c1 := (hH.cell k).trans (addArr_get st r k hlt3)
                          have f1 := hH.frozen k
                          have c2 := (hR.cell k).trans (st_get r k hlt3)
                          go_wp2_with fail
                          go_still_tail 9, (by kernel_rfl)
                          go_wp2_with fail
                          rw [add_val]
                          have hH2 := hH.set_ k (U (st.words.getD k 0 + r.words.getD k 0))
                          rw [addArr_set st r k hlt3] at hH2
                          simp only [List.getD_eq_getElem?_getD] at hH2
                          refine ⟨⟨k + 1, by omega, by go_num, (hB.setCell (by simp) _).drew, hH2.drew, ⟨(hS.1.far (by simp) _).drew, hS.2.1, hS.2.2⟩, (hR.far (by simp; omega) _).drew⟩, by simp [intOf]; omega⟩
                        · obtain rfl : k = 8 := by omega
                          clear hlt3 hk8
                          have eq2 : stCells (blks P (q + 1)) = addArr st r 8 := by
                            rw [addArr_all, blks, ← Hb.out, ← Hst.out, Hr.out]; rfl
                          rw [← eq2] at hH
                          have s64 : IntKind.i64.wrap (64 * (q : Int) + 64) = 64 * q + 64 := IntWalk.i64_in _ (by omega)
                          have hlw := hS.1.lt
                          go_wp2_with fail
                          refine ⟨⟨q + 1, arr, by omega, by congr 1, hB, hH, ⟨hS.1, hS.2.1, fun j hj => absurd hj (by omega)⟩, by omega⟩, by simp [intOf]; omega⟩
            · obtain rfl : q = Q := by omega
              have ht : ¬ ((64 * (q : Int)) < (P.length : Int)) := by omega
              clear hlt hq
              obtain ⟨st, hst⟩ : ∃ st, st = blks P q := ⟨_, rfl⟩
              rw [← hst] at hH
              have hdg2 : digest l = st.out := by rw [hst]; exact Hdg.out
              have Hdg2 := Lib.hid hdg2
              clear hst hdg2
              go_wp2_with fail
              obtain ⟨S9, hS9⟩ : ∃ S9, S9 = wr.heap.size := ⟨_, rfl⟩
              rw [← hS9]
              go_loopw [22] (fun i wr => ∃ k : Nat, k ≤ 32 ∧ i = I k ∧ Below W0.heap.size W0 wr ∧ Blk wr W0.heap.size 62 (stCells st) ∧ Blk wr S9 29 (outB st k)) (fun i _ => 32 - (intOf i).toNat)
              case atStart => exact ⟨0, by omega, rfl, hB.alloc (by omega) _, hH.alloc _, hS9 ▸ Blk.new _ _ _⟩
              case round =>
                have hS9' : W0.heap.size + 2 ≤ S9 := by omega
                clear hB hH hS0 hz hS9
                obtain ⟨k, hk, rfl, hB, hH, hD⟩ := hrel
                by_cases hlt : k < 32
                · have k0 : 0 ≤ (k : Int) := by omega
                  have k32 : (k : Int) < 32 := by omega
                  have kd0 : 0 ≤ (k : Int) / 4 := by omega
                  have kd8 : (k : Int) / 4 < 8 := by omega
                  have n4 : ((k : Int) / 4).toNat = k / 4 := by omega
                  have m0 : 0 ≤ (k : Int) % 4 := by omega
                  have m4 : (k : Int) % 4 < 4 := by omega
                  have cH := (hH.cell (k / 4)).trans (st_get st (k / 4) (by omega))
                  have cD := (hD.cell k).trans (outB_get st k hlt)
                  have fD := hD.frozen k
                  go_wp2_with fail
                  have ho := out_at st k hlt
                  rw [List.getD_eq_getElem?_getD] at ho
                  rw [ho]
                  refine ⟨⟨k + 1, by omega, by go_num, hB.setCell (by simp; omega) _, hH.far (by simp; omega) _, ?_⟩, by simp [intOf]; omega⟩
                  exact (outB_set st k hlt) ▸ hD.set_ k _
                · obtain rfl : k = 32 := by omega
                  clear hlt hk
                  rw [outB_all, ← Hdg2.out] at hD
                  have hsz : ((digest l).map B).toArray.size = 32 := by simp [digest_length]
                  have Hsz2 := Lib.hid hsz
                  have Hone2 := Lib.hid (dig_one (digest l))
                  have hRr := hR0.below hB hR0.lt
                  clear hsz
                  simp only [Int.cast_ofNat_Int]
                  go_wp2_with (first
                    | (refine wpList_load_row rfl 29 (.tmp 21) rfl S9 rfl 29 _ (0, 0) _ hD Tryd.underlying29 rfl (by rw [Hsz2.out]; exact dig_info) ?_)
                    | (refine wpList_store_row rfl 29 (.tmp 2) (.tmp 238) rfl w.heap.size ((digest l).map B).toArray rfl rfl 29 _ hRr (by rw [Hsz2.out]; exact dig_info) (by rw [Hsz2.out]; rfl) Hone2.out ?_))
                  refine bodyPost_ret (results_cell_row rfl _ _ w.heap.size 29 _ (0, 0) _ rfl (hRr.setRow _) Tryd.underlying29 rfl (by rw [Hsz2.out]; exact dig_info)) rfl ?_
                  exact ⟨rfl, below_setRow (hB0.trans (hB.mono hB0.size)) (Nat.le_refl _) _⟩
end Go.Proofs.YtmjaclgbagogfaaDoor
