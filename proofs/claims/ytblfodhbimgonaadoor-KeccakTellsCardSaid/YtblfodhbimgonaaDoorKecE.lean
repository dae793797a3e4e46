/- The hash once more, laid so that the kernel reckons it; and the examples' hashes. -/
import Derived.Test.YtblfodhbimgonaaDoorKecK
namespace Go.Proofs.YtblfodhbimgonaaDoor
namespace Kec
set_option linter.unusedVariables false
set_option maxRecDepth 100000

def outK (l : List Nat) : List UInt8 := (List.range 32).map fun i => UInt8.ofNat (l.getD (i / 8) 0 / 2 ^ (8 * (i % 8)))
theorem outK_eq (a : Nat → Nat) : outK (lst a) = outL a := by
  unfold outK outL
  apply List.map_congr_left
  intro i hi
  have h4 : i / 8 < 4 := by have := List.mem_range.1 hi; omega
  unfold outByte
  congr 2
  generalize i / 8 = j at *
  match j, h4 with
  | 0, _ => rfl
  | 1, _ => rfl
  | 2, _ => rfl
  | 3, _ => rfl
def addW : List Nat → List Nat → List Nat
  | x :: l, y :: m => xorK x y :: addW l m
  | l, _ => l
def wordsK (p : List UInt8) (c : Nat) : List Nat := (List.range 17).map (word p c)
def absK (p : List UInt8) (l : List Nat) (c : Nat) : List Nat := permK (forceL (addW l (wordsK p c)))
theorem addW_eq (a : Nat → Nat) (p : List UInt8) (c : Nat) : addW (lst a) (wordsK p c) = lst (absTo a p c 17) := by
  have e : ∀ i, absTo a p c 17 i = if i < 17 then a i ^^^ word p c i else a i := fun i => absTo_eq a p c 17 i
  simp only [lst, e]
  rfl
theorem absK_eq (p : List UInt8) (a : Nat → Nat) (ha : Ok a) (c : Nat) : absK p (lst a) c = lst (absB p a c) := by
  unfold absK
  rw [forceL_eq, addW_eq, permK_eq _ (absTo_ok a p c 17 ha)]
  rfl
theorem absKs_eq (p : List UInt8) (cs : List Nat) : ∀ a, Ok a → cs.foldl (absK p) (lst a) = lst (cs.foldl (absB p) a) := by
  induction cs with
  | nil => intro a _; rfl
  | cons c cs ih => intro a ha; rw [List.foldl_cons, List.foldl_cons, absK_eq p a ha c]; exact ih _ (absB_ok p a c ha)
def sumK (l : List UInt8) : List UInt8 := outK ((List.range ((padL l).length / 136)).foldl (absK (padL l)) (lst zero))
theorem sumK_eq (l : List UInt8) : sumK l = sumL l := by
  unfold sumK sumL absL
  rw [absKs_eq _ _ _ zero_ok, outK_eq]

theorem sum_nil : (sumL []).take 6 = [197, 210, 70, 1, 134, 247] := by rw [← sumK_eq]; decide +kernel
theorem sum_abc : (sumL [97, 98, 99]).take 6 = [78, 3, 101, 122, 234, 69] := by rw [← sumK_eq]; decide +kernel
theorem pad_x : padL [120] = 120 :: 1 :: (List.replicate 133 0 ++ [128]) := by decide +kernel
theorem lst_head (a : Nat → Nat) : (lst a).headD 0 = a 0 := rfl
theorem perm_zero_lane : perm zero 0 = 17376452488221285863 := by
  have h := perm_zero
  rw [forceL_eq, permK_eq zero zero_ok, lst_head] at h
  exact h
end Kec
end Go.Proofs.YtblfodhbimgonaaDoor
