/- SHA-256 in plain Lean: the digest of a list of bytes, byte by byte. No program in sight. -/
namespace Go.Proofs.YtmjaclgbagogfaaDoor.Sha
abbrev W32 := BitVec 32
abbrev Byte := BitVec 8
def rotr (x : W32) (n : Nat) : W32 := x >>> n ||| x <<< (32 - n)
def ssig0 (x : W32) : W32 := rotr x 7 ^^^ rotr x 18 ^^^ x >>> 3
def ssig1 (x : W32) : W32 := rotr x 17 ^^^ rotr x 19 ^^^ x >>> 10
def bsig0 (x : W32) : W32 := rotr x 2 ^^^ rotr x 13 ^^^ rotr x 22
def bsig1 (x : W32) : W32 := rotr x 6 ^^^ rotr x 11 ^^^ rotr x 25
def ch (e f g : W32) : W32 := e &&& f ^^^ ~~~e &&& g
def maj (a b c : W32) : W32 := a &&& b ^^^ a &&& c ^^^ b &&& c
def K : List Nat := [1116352408, 1899447441, 3049323471, 3921009573, 961987163, 1508970993, 2453635748, 2870763221, 3624381080, 310598401, 607225278, 1426881987, 1925078388, 2162078206, 2614888103, 3248222580, 3835390401, 4022224774, 264347078, 604807628, 770255983, 1249150122, 1555081692, 1996064986, 2554220882, 2821834349, 2952996808, 3210313671, 3336571891, 3584528711, 113926993, 338241895, 666307205, 773529912, 1294757372, 1396182291, 1695183700, 1986661051, 2177026350, 2456956037, 2730485921, 2820302411, 3259730800, 3345764771, 3516065817, 3600352804, 4094571909, 275423344, 430227734, 506948616, 659060556, 883997877, 958139571, 1322822218, 1537002063, 1747873779, 1955562222, 2024104815, 2227730452, 2361852424, 2428436474, 2756734187, 3204031479, 3329325298]
structure St where
  a : W32
  b : W32
  c : W32
  d : W32
  e : W32
  f : W32
  g : W32
  h : W32
  deriving DecidableEq
def init : St := ⟨1779033703, 3144134277, 1013904242, 2773480762, 1359893119, 2600822924, 528734635, 1541459225⟩
def round (k w : W32) (s : St) : St :=
  let one := s.h + bsig1 s.e + ch s.e s.f s.g + k + w
  let two := bsig0 s.a + maj s.a s.b s.c
  ⟨one + two, s.a, s.b, s.c, s.d + one, s.e, s.f, s.g⟩
/-- The word made of four bytes from i on. -/
def word4 (b : List UInt8) (i : Nat) : W32 :=
  BitVec.ofNat 32 ((b.getD i 0).toNat * 16777216 + (b.getD (i + 1) 0).toNat * 65536 + (b.getD (i + 2) 0).toNat * 256 + (b.getD (i + 3) 0).toNat)
/-- The first n words of the schedule, the latest first. -/
def sch (b : List UInt8) : Nat → List W32
  | 0 => []
  | t + 1 =>
    let l := sch b t
    (if t < 16 then word4 b (4 * t) else ssig1 (l.getD 1 0) + l.getD 6 0 + ssig0 (l.getD 14 0) + l.getD 15 0) :: l
def wt (b : List UInt8) (t : Nat) : W32 := (sch b (t + 1)).getD 0 0
/-- t rounds. -/
def rnds (b : List UInt8) (s : St) : Nat → St
  | 0 => s
  | t + 1 => round (BitVec.ofNat 32 (K.getD t 0)) (wt b t) (rnds b s t)
def addSt (s r : St) : St := ⟨s.a + r.a, s.b + r.b, s.c + r.c, s.d + r.d, s.e + r.e, s.f + r.f, s.g + r.g, s.h + r.h⟩
/-- 64 bytes go into the state. -/
def mix (s : St) (b : List UInt8) : St := addSt s (rnds b s 64)
/-- One byte more: a state, and the bytes that wait. -/
def feed (p : St × List UInt8) (c : UInt8) : St × List UInt8 :=
  if p.2.length = 63 then (mix p.1 (p.2 ++ [c]), []) else (p.1, p.2 ++ [c])
def St.words (s : St) : List W32 := [s.a, s.b, s.c, s.d, s.e, s.f, s.g, s.h]
def bytes4 (x : W32) : List UInt8 := [UInt8.ofNat (x.toNat / 16777216), UInt8.ofNat (x.toNat / 65536), UInt8.ofNat (x.toNat / 256), UInt8.ofNat x.toNat]
def St.out (s : St) : List UInt8 := s.words.flatMap bytes4
/-- How many noughts stand behind the 128. -/
def zeros (n : Nat) : Nat := (119 - n % 64) % 64
def size8 (n : Nat) : List UInt8 := (List.range 8).map fun i => UInt8.ofNat (n * 8 % 18446744073709551616 / 2 ^ (56 - 8 * i))
def pad (l : List UInt8) : List UInt8 := l ++ 128 :: (List.replicate (zeros l.length) 0 ++ size8 l.length)
/-- THE DIGEST. -/
def digest (l : List UInt8) : List UInt8 := ((pad l).foldl feed (init, [])).1.out

theorem getD_zero_cons {α : Type} (x : α) (l : List α) (d : α) : (x :: l).getD 0 d = x := rfl
theorem sch_length (b : List UInt8) : ∀ n, (sch b n).length = n
  | 0 => rfl
  | n + 1 => by rw [sch]; simp [sch_length b n]
theorem wt_eq (b : List UInt8) (t : Nat) : wt b t = if t < 16 then word4 b (4 * t) else ssig1 ((sch b t).getD 1 0) + (sch b t).getD 6 0 + ssig0 ((sch b t).getD 14 0) + (sch b t).getD 15 0 := by
  unfold wt; rw [sch]; rfl
theorem sch_getD (b : List UInt8) : ∀ (n i : Nat), i < n → (sch b n).getD i 0 = wt b (n - 1 - i)
  | 0, _, h => absurd h (by omega)
  | n + 1, 0, _ => by unfold wt; simp
  | n + 1, i + 1, h => by
    have := sch_getD b n i (by omega)
    rw [sch]
    simp only [List.getD_cons_succ]
    rw [this]
    congr 1; omega
theorem wt_low (b : List UInt8) (t : Nat) (h : t < 16) : wt b t = word4 b (4 * t) := by rw [wt_eq, if_pos h]
theorem wt_high (b : List UInt8) (t : Nat) (h : 16 ≤ t) : wt b t = ssig1 (wt b (t - 2)) + wt b (t - 7) + ssig0 (wt b (t - 15)) + wt b (t - 16) := by
  rw [wt_eq, if_neg (by omega), sch_getD b t 1 (by omega), sch_getD b t 6 (by omega), sch_getD b t 14 (by omega), sch_getD b t 15 (by omega)]
  have e1 : t - 1 - 1 = t - 2 := by omega
  have e2 : t - 1 - 6 = t - 7 := by omega
  have e3 : t - 1 - 14 = t - 15 := by omega
  have e4 : t - 1 - 15 = t - 16 := by omega
  rw [e1, e2, e3, e4]
theorem feed_pend (p : St × List UInt8) (l : List UInt8) (h : p.2.length + l.length < 64) : l.foldl feed p = (p.1, p.2 ++ l) := by
  induction l generalizing p with
  | nil => simp
  | cons c l ih =>
    simp only [List.length_cons] at h
    rw [List.foldl_cons]
    have e : feed p c = (p.1, p.2 ++ [c]) := by unfold feed; rw [if_neg (by omega)]
    rw [e, ih _ (by simp; omega)]
    simp
theorem feed_full (p : St × List UInt8) (l : List UInt8) (h0 : p.2.length < 64) (h : p.2.length + l.length = 64) : l.foldl feed p = (mix p.1 (p.2 ++ l), []) := by
  rcases List.eq_nil_or_concat l with rfl | ⟨l', c, rfl⟩
  · simp at h; omega
  · simp only [List.concat_eq_append, List.length_append, List.length_cons, List.length_nil] at h
    rw [List.concat_eq_append, List.foldl_append, feed_pend p l' (by omega)]
    simp only [List.foldl_cons, List.foldl_nil, feed, List.length_append]
    rw [if_pos (by omega)]; simp
theorem feed_lt (p : St × List UInt8) (l : List UInt8) (h : p.2.length < 64) : (l.foldl feed p).2.length < 64 := by
  induction l generalizing p with
  | nil => exact h
  | cons c l ih =>
    rw [List.foldl_cons]
    apply ih
    unfold feed
    split
    · simp
    · simp; omega
theorem feed_len (p : St × List UInt8) (l : List UInt8) (h : p.2.length < 64) : (l.foldl feed p).2.length = (p.2.length + l.length) % 64 := by
  induction l generalizing p with
  | nil => simp; omega
  | cons c l ih =>
    rw [List.foldl_cons]
    have h1 : (feed p c).2.length < 64 := feed_lt p [c] h
    rw [ih _ h1]
    unfold feed
    split
    · simp; omega
    · simp; omega
theorem out_length (s : St) : s.out.length = 32 := rfl
theorem digest_length (l : List UInt8) : (digest l).length = 32 := rfl
example : digest [97, 98] ≠ digest [99, 100] := by decide +kernel
end Go.Proofs.YtmjaclgbagogfaaDoor.Sha
