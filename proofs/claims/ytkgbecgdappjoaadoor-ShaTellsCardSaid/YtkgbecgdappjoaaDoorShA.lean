/- Plain laws on the second hash: turned numbers, words of a block, rounds. No program in sight. -/
namespace Go.Proofs.YtkgbecgdappjoaaDoor
namespace Sha
set_option linter.unusedVariables false

def upd (f : Nat → Nat) (i v : Nat) : Nat → Nat := fun j => if j = i then v else f j
def rotr (x n : Nat) : Nat := (x * 2 ^ (32 - n) % 2 ^ 32) ||| (x / 2 ^ n)
def turnL (x : Nat) (l : List Nat) : Nat := l.foldl (fun o n => o ^^^ rotr x n) 0
def add (a b : Nat) : Nat := (a + b) % 2 ^ 32
def not32 (x : Nat) : Nat := 4294967295 - x
theorem rotr_lt (x n : Nat) (hx : x < 2 ^ 32) : rotr x n < 2 ^ 32 := by
  unfold rotr
  exact Nat.or_lt_two_pow (Nat.mod_lt _ (by decide)) (Nat.lt_of_le_of_lt (Nat.div_le_self _ _) hx)
theorem fold_lt (x : Nat) (hx : x < 2 ^ 32) (l : List Nat) : ∀ o, o < 2 ^ 32 → l.foldl (fun o n => o ^^^ rotr x n) o < 2 ^ 32 := by
  induction l with
  | nil => intro o h; exact h
  | cons n l ih => intro o h; exact ih _ (Nat.xor_lt_two_pow h (rotr_lt x n hx))
theorem turnL_lt (x : Nat) (hx : x < 2 ^ 32) (l : List Nat) : turnL x l < 2 ^ 32 := fold_lt x hx l 0 (by decide)
theorem turnL_snoc (x : Nat) (l : List Nat) (n : Nat) : turnL x (l ++ [n]) = turnL x l ^^^ rotr x n := by simp [turnL]
theorem add_lt (a b : Nat) : add a b < 2 ^ 32 := Nat.mod_lt _ (by decide)

/-- The number of bytes, the highest one first. -/
def num (l : List UInt8) : Nat := l.foldl (fun n c => (n * 256 % 2 ^ 32) ||| c.toNat) 0
theorem num_snoc (l : List UInt8) (c : UInt8) : num (l ++ [c]) = (num l * 256 % 2 ^ 32) ||| c.toNat := by simp [num]
theorem num_lt (l : List UInt8) : num l < 2 ^ 32 := by
  suffices h : ∀ n, n < 2 ^ 32 → l.foldl (fun n c => (n * 256 % 2 ^ 32) ||| c.toNat) n < 2 ^ 32 from h 0 (by decide)
  induction l with
  | nil => intro n h; exact h
  | cons c l ih => intro n h; exact ih _ (Nat.or_lt_two_pow (Nat.mod_lt _ (by decide)) (Nat.lt_of_lt_of_le c.toNat_lt (by decide)))
/-- The bytes of a number, the highest one first. -/
def highTo (n many k : Nat) : List UInt8 := (List.range k).map fun i => UInt8.ofNat (n / 2 ^ (8 * (many - 1 - i)))
def high (n many : Nat) : List UInt8 := highTo n many many
theorem highTo_succ (n many k : Nat) : highTo n many (k + 1) = highTo n many k ++ [UInt8.ofNat (n / 2 ^ (8 * (many - 1 - k)))] := by
  unfold highTo
  rw [List.range_succ, List.map_append]; rfl
theorem highTo_length (n many k : Nat) : (highTo n many k).length = k := by simp [highTo]
theorem high_length (n many : Nat) : (high n many).length = many := highTo_length _ _ _

def s0 (x : Nat) : Nat := turnL x [7, 18] ^^^ x / 2 ^ 3
def s1 (y : Nat) : Nat := turnL y [17, 19] ^^^ y / 2 ^ 10
def wAt (b : List UInt8) (w : Nat → Nat) (i : Nat) : Nat :=
  if i < 16 then num ((b.drop (4 * i)).take 4) else add (add (add (w (i - 16)) (w (i - 7))) (s0 (w (i - 15)))) (s1 (w (i - 2)))
def wTo (b : List UInt8) : Nat → Nat → Nat
  | 0 => fun _ => 0
  | k + 1 => upd (wTo b k) k (wAt b (wTo b k) k)
def Ok (n : Nat) (f : Nat → Nat) : Prop := ∀ i, i < n → f i < 2 ^ 32
theorem wAt_lt (b : List UInt8) (w : Nat → Nat) (i : Nat) : wAt b w i < 2 ^ 32 := by
  unfold wAt
  split
  · exact num_lt _
  · exact add_lt _ _
theorem wTo_lt (b : List UInt8) (k i : Nat) : wTo b k i < 2 ^ 32 := by
  induction k with
  | zero => show 0 < _; decide
  | succ k ih =>
    simp only [wTo, upd]
    split
    · exact wAt_lt _ _ _
    · exact ih
def tt (c w : Nat) (v : Nat → Nat) : Nat := add (add (add (add (v 7) (turnL (v 4) [6, 11, 25])) ((v 4 &&& v 5) ^^^ (not32 (v 4) &&& v 6))) c) w
def uu (v : Nat → Nat) : Nat := add (turnL (v 0) [2, 13, 22]) ((v 0 &&& v 1) ^^^ (v 0 &&& v 2) ^^^ (v 1 &&& v 2))
def shift (v : Nat → Nat) : Nat → Nat := fun i => if i = 0 then v 0 else v (i - 1)
def rnd (c w : Nat) (v : Nat → Nat) : Nat → Nat := upd (upd (shift v) 4 (add (shift v 4) (tt c w v))) 0 (add (tt c w v) (uu v))
def rndTo (c w : Nat → Nat) (h : Nat → Nat) : Nat → Nat → Nat
  | 0 => h
  | k + 1 => rnd (c k) (w k) (rndTo c w h k)
theorem rnd_ok (c w : Nat) (v : Nat → Nat) (hv : Ok 8 v) : Ok 8 (rnd c w v) := by
  intro i hi
  simp only [rnd, upd, shift]
  split
  · exact add_lt _ _
  · split
    · exact add_lt _ _
    · exact hv _ (by omega)
theorem rndTo_ok (c w : Nat → Nat) (h : Nat → Nat) (hh : Ok 8 h) (k : Nat) : Ok 8 (rndTo c w h k) := by
  induction k with
  | zero => exact hh
  | succ k ih => exact rnd_ok _ _ _ ih
def sumTo (h v : Nat → Nat) (k : Nat) : Nat → Nat := fun i => if i < k then add (h i) (v i) else h i
def constants : List Nat := [1116352408, 1899447441, 3049323471, 3921009573, 961987163, 1508970993, 2453635748, 2870763221, 3624381080, 310598401, 607225278, 1426881987, 1925078388, 2162078206, 2614888103, 3248222580, 3835390401, 4022224774, 264347078, 604807628, 770255983, 1249150122, 1555081692, 1996064986, 2554220882, 2821834349, 2952996808, 3210313671, 3336571891, 3584528711, 113926993, 338241895, 666307205, 773529912, 1294757372, 1396182291, 1695183700, 1986661051, 2177026350, 2456956037, 2730485921, 2820302411, 3259730800, 3345764771, 3516065817, 3600352804, 4094571909, 275423344, 430227734, 506948616, 659060556, 883997877, 958139571, 1322822218, 1537002063, 1747873779, 1955562222, 2024104815, 2227730452, 2361852424, 2428436474, 2756734187, 3204031479, 3329325298]
def start : List Nat := [1779033703, 3144134277, 1013904242, 2773480762, 1359893119, 2600822924, 528734635, 1541459225]
abbrev cF (i : Nat) : Nat := constants.getD i 0
abbrev hF (i : Nat) : Nat := start.getD i 0
theorem hF_ok : Ok 8 hF := by unfold Ok; decide
theorem cF_ok : Ok 64 cF := by unfold Ok; decide
def mix (h : Nat → Nat) (b : List UInt8) : Nat → Nat := sumTo h (rndTo cF (wTo b 64) h 64) 8
theorem mix_ok (h : Nat → Nat) (b : List UInt8) (hh : Ok 8 h) : Ok 8 (mix h b) := by
  intro i hi
  simp only [mix, sumTo, hi, if_true]
  exact add_lt _ _
/-! the pad, the sum -/
def padN (n : Nat) : Nat := (64 - (n + 9) % 64) % 64
def padL (l : List UInt8) : List UInt8 := l ++ 128 :: List.replicate (padN l.length) 0 ++ high (8 * l.length) 8
theorem padL_length (l : List UInt8) : (padL l).length = 64 * ((l.length + 8) / 64 + 1) := by
  simp only [padL, List.length_append, List.length_cons, List.length_replicate, high_length]
  unfold padN
  omega
def mixL (p : List UInt8) (cs : List Nat) : Nat → Nat := cs.foldl (fun h c => mix h ((p.drop (64 * c)).take 64)) hF
theorem mixL_snoc (p : List UInt8) (cs : List Nat) (c : Nat) : mixL p (cs ++ [c]) = mix (mixL p cs) ((p.drop (64 * c)).take 64) := by simp [mixL]
theorem mixL_ok (p : List UInt8) (cs : List Nat) : Ok 8 (mixL p cs) := by
  suffices h : ∀ a, Ok 8 a → Ok 8 (cs.foldl (fun h c => mix h ((p.drop (64 * c)).take 64)) a) from h _ hF_ok
  induction cs with
  | nil => exact fun a h => h
  | cons c cs ih => exact fun a h => ih _ (mix_ok _ _ h)
def outTo (h : Nat → Nat) (k : Nat) : List UInt8 := (List.range k).flatMap fun i => high (h i) 4
theorem outTo_succ (h : Nat → Nat) (k : Nat) : outTo h (k + 1) = outTo h k ++ high (h k) 4 := by
  unfold outTo
  rw [List.range_succ, List.flatMap_append]; simp
theorem outTo_length (h : Nat → Nat) (k : Nat) : (outTo h k).length = 4 * k := by
  induction k with
  | zero => rfl
  | succ k ih => rw [outTo_succ, List.length_append, ih, high_length]; omega
def sumL (l : List UInt8) : List UInt8 := outTo (mixL (padL l) (List.range ((padL l).length / 64))) 8
theorem sumL_length (l : List UInt8) : (sumL l).length = 32 := outTo_length _ 8
end Sha
end Go.Proofs.YtkgbecgdappjoaaDoor
