/- Plain laws on the sponge: blocks are added to lanes, and the hash is read off them. No program in sight. -/
import Derived.Test.YtblfodhbimgonaaDoorKecA
import Derived.Test.YtblfodhbimgonaaDoorKecB
namespace Go.Proofs.YtblfodhbimgonaaDoor
namespace Kec

/-- The lane i of the block c of a text of whole blocks. -/
def word (p : List UInt8) (c i : Nat) : Nat := lowN ((p.drop (136 * c + 8 * i)).take 8)
theorem word_lt (p : List UInt8) (c i : Nat) : word p c i < 2 ^ 64 := by
  unfold word
  refine Nat.lt_of_lt_of_le (lowN_lt _) ?_
  rw [pow256]
  exact Nat.pow_le_pow_right (by decide) (by simp only [List.length_take]; omega)
def absTo (a : Nat → Nat) (p : List UInt8) (c : Nat) : Nat → Nat → Nat
  | 0 => a
  | k + 1 => upd (absTo a p c k) k (absTo a p c k k ^^^ word p c k)
theorem absTo_ok (a : Nat → Nat) (p : List UInt8) (c k : Nat) (ha : Ok a) : Ok (absTo a p c k) := by
  induction k with
  | zero => exact ha
  | succ k ih =>
    intro i hi
    simp only [absTo, upd]
    split
    · rename_i h; subst h; exact Nat.xor_lt_two_pow (ih _ hi) (word_lt _ _ _)
    · exact ih i hi
theorem absTo_eq (a : Nat → Nat) (p : List UInt8) (c k i : Nat) : absTo a p c k i = if i < k then a i ^^^ word p c i else a i := by
  induction k with
  | zero => simp [absTo]
  | succ k ih =>
    simp only [absTo, upd]
    by_cases h : i = k
    · subst h; simp [ih]
    · rw [if_neg h, ih]
      by_cases h2 : i < k
      · rw [if_pos h2, if_pos (by omega)]
      · rw [if_neg h2, if_neg (by omega)]
def absB (p : List UInt8) (a : Nat → Nat) (c : Nat) : Nat → Nat := perm (absTo a p c 17)
theorem absB_ok (p : List UInt8) (a : Nat → Nat) (c : Nat) (ha : Ok a) : Ok (absB p a c) := perm_ok _ (absTo_ok a p c 17 ha)
def zero : Nat → Nat := fun _ => 0
theorem zero_ok : Ok zero := fun _ _ => by show 0 < _; decide
def absL (p : List UInt8) (cs : List Nat) : Nat → Nat := cs.foldl (absB p) zero
theorem absL_snoc (p : List UInt8) (cs : List Nat) (c : Nat) : absL p (cs ++ [c]) = absB p (absL p cs) c := by simp [absL]
theorem absL_ok (p : List UInt8) (cs : List Nat) : Ok (absL p cs) := by
  suffices h : ∀ a, Ok a → Ok (cs.foldl (absB p) a) from h _ zero_ok
  induction cs with
  | nil => exact fun a h => h
  | cons c cs ih => exact fun a h => ih _ (absB_ok p a c h)
theorem vals_finRange (q : Nat) : (List.finRange q).map (·.1) = List.range q := by
  apply List.ext_getElem
  · simp
  · intro i h1 h2; simp

def outByte (a : Nat → Nat) (i : Nat) : UInt8 := UInt8.ofNat (a (i / 8) / 2 ^ (8 * (i % 8)))
def outTo (a : Nat → Nat) (k : Nat) : List UInt8 := (List.range 32).map fun i => if i < k then outByte a i else 0
def outL (a : Nat → Nat) : List UInt8 := (List.range 32).map (outByte a)
theorem outTo_length (a : Nat → Nat) (k : Nat) : (outTo a k).length = 32 := by simp [outTo]
theorem outTo_succ (a : Nat → Nat) (k : Nat) : outTo a (k + 1) = (outTo a k).set k (outByte a k) := by
  apply List.ext_getElem
  · simp [outTo]
  · intro i h1 h2
    rw [List.getElem_set]
    by_cases h : k = i
    · subst h; simp [outTo]
    · rw [if_neg h]
      simp only [outTo, List.getElem_map, List.getElem_range]
      by_cases h3 : i < k
      · rw [if_pos (by omega), if_pos h3]
      · rw [if_neg (by omega), if_neg h3]
theorem outTo_all (a : Nat → Nat) : outTo a 32 = outL a := by
  apply List.ext_getElem
  · simp [outTo, outL]
  · intro i h1 h2
    have : i < 32 := by simpa [outTo] using h1
    simp [outTo, outL, this]
/-- The hash of a text. -/
def sumL (l : List UInt8) : List UInt8 := outL (absL (padL l) (List.range ((padL l).length / 136)))
theorem sumL_length (l : List UInt8) : (sumL l).length = 32 := by simp [sumL, outL]

end Kec
end Go.Proofs.YtblfodhbimgonaaDoor
