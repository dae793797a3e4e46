/- The round once more, over a list of 25 numbers, laid so that the kernel reckons it fast; and that it is the round. Written by a program of this repo. -/
import Derived.Test.YtblfodhbimgonaaDoorKecC
namespace Go.Proofs.YtblfodhbimgonaaDoor
namespace Kec
set_option linter.unusedVariables false

/-- A number is reckoned before it is used. -/
def fz {A : Type} (n : Nat) (k : Nat → A) : A :=
  match n with
  | 0 => k 0
  | m + 1 => k (Nat.succ m)
theorem fz_eq {A : Type} (n : Nat) (k : Nat → A) : fz n k = k n := by cases n <;> rfl
def forceL : List Nat → List Nat
  | [] => []
  | x :: l => fz x fun y => y :: forceL l
theorem forceL_eq (l : List Nat) : forceL l = l := by
  induction l with
  | nil => rfl
  | cons x l ih => rw [forceL, fz_eq, ih]
def xorK (x y : Nat) : Nat := Nat.xor x y
theorem xorK_eq (x y : Nat) : xorK x y = x ^^^ y := rfl
def rotK (x r s : Nat) : Nat := Nat.lor (Nat.mod (Nat.mul x (Nat.pow 2 r)) 18446744073709551616) (Nat.div x (Nat.pow 2 s))
theorem rotK_eq (x r s : Nat) (h : 64 - r = s) : rotK x r s = rotl x r := by subst h; rfl
def andK (x y : Nat) : Nat := Nat.land x (Nat.sub 18446744073709551615 y)
theorem andK_eq (x y : Nat) : andK x y = andn x y := rfl

def colK (l : List Nat) : List Nat :=
  match l with
  | [a0, a1, a2, a3, a4, a5, a6, a7, a8, a9, a10, a11, a12, a13, a14, a15, a16, a17, a18, a19, a20, a21, a22, a23, a24] => [xorK (xorK (xorK (xorK a0 a5) a10) a15) a20, xorK (xorK (xorK (xorK a1 a6) a11) a16) a21, xorK (xorK (xorK (xorK a2 a7) a12) a17) a22, xorK (xorK (xorK (xorK a3 a8) a13) a18) a23, xorK (xorK (xorK (xorK a4 a9) a14) a19) a24]
  | _ => []
def dK (l : List Nat) : List Nat :=
  match l with
  | [c0, c1, c2, c3, c4] => [xorK c4 (rotK c1 1 63), xorK c0 (rotK c2 1 63), xorK c1 (rotK c3 1 63), xorK c2 (rotK c4 1 63), xorK c3 (rotK c0 1 63)]
  | _ => []
def addK (l d : List Nat) : List Nat :=
  match l, d with
  | [a0, a1, a2, a3, a4, a5, a6, a7, a8, a9, a10, a11, a12, a13, a14, a15, a16, a17, a18, a19, a20, a21, a22, a23, a24], [d0, d1, d2, d3, d4] => [xorK a0 d0, xorK a1 d1, xorK a2 d2, xorK a3 d3, xorK a4 d4, xorK a5 d0, xorK a6 d1, xorK a7 d2, xorK a8 d3, xorK a9 d4, xorK a10 d0, xorK a11 d1, xorK a12 d2, xorK a13 d3, xorK a14 d4, xorK a15 d0, xorK a16 d1, xorK a17 d2, xorK a18 d3, xorK a19 d4, xorK a20 d0, xorK a21 d1, xorK a22 d2, xorK a23 d3, xorK a24 d4]
  | _, _ => []
def turnK (l : List Nat) : List Nat :=
  match l with
  | [a0, a1, a2, a3, a4, a5, a6, a7, a8, a9, a10, a11, a12, a13, a14, a15, a16, a17, a18, a19, a20, a21, a22, a23, a24] => [a0, rotK a6 44 20, rotK a12 43 21, rotK a18 21 43, rotK a24 14 50, rotK a3 28 36, rotK a9 20 44, rotK a10 3 61, rotK a16 45 19, rotK a22 61 3, rotK a1 1 63, rotK a7 6 58, rotK a13 25 39, rotK a19 8 56, rotK a20 18 46, rotK a4 27 37, rotK a5 36 28, rotK a11 10 54, rotK a17 15 49, rotK a23 56 8, rotK a2 62 2, rotK a8 55 9, rotK a14 39 25, rotK a15 41 23, rotK a21 2 62]
  | _ => []
def chiK (l : List Nat) : List Nat :=
  match l with
  | [a0, a1, a2, a3, a4, a5, a6, a7, a8, a9, a10, a11, a12, a13, a14, a15, a16, a17, a18, a19, a20, a21, a22, a23, a24] => [xorK a0 (andK a2 a1), xorK a1 (andK a3 a2), xorK a2 (andK a4 a3), xorK a3 (andK a0 a4), xorK a4 (andK a1 a0), xorK a5 (andK a7 a6), xorK a6 (andK a8 a7), xorK a7 (andK a9 a8), xorK a8 (andK a5 a9), xorK a9 (andK a6 a5), xorK a10 (andK a12 a11), xorK a11 (andK a13 a12), xorK a12 (andK a14 a13), xorK a13 (andK a10 a14), xorK a14 (andK a11 a10), xorK a15 (andK a17 a16), xorK a16 (andK a18 a17), xorK a17 (andK a19 a18), xorK a18 (andK a15 a19), xorK a19 (andK a16 a15), xorK a20 (andK a22 a21), xorK a21 (andK a23 a22), xorK a22 (andK a24 a23), xorK a23 (andK a20 a24), xorK a24 (andK a21 a20)]
  | _ => []
def addC (l : List Nat) (c : Nat) : List Nat :=
  match l with
  | x :: r => xorK x c :: r
  | _ => []
def rndK (l : List Nat) (c : Nat) : List Nat := addC (chiK (forceL (turnK (addK l (forceL (dK (forceL (colK l)))))))) c
def lst (a : Nat → Nat) : List Nat := [a 0, a 1, a 2, a 3, a 4, a 5, a 6, a 7, a 8, a 9, a 10, a 11, a 12, a 13, a 14, a 15, a 16, a 17, a 18, a 19, a 20, a 21, a 22, a 23, a 24]
def lst5 (a : Nat → Nat) : List Nat := [a 0, a 1, a 2, a 3, a 4]
def permK (l : List Nat) : List Nat := consts.foldl rndK l
theorem colK_eq (a : Nat → Nat) : colK (lst a) = lst5 (col a) := rfl
theorem dK_eq (c : Nat → Nat) : dK (lst5 c) = lst5 (thD c) := rfl
theorem addK_eq (a : Nat → Nat) : addK (lst a) (lst5 (thD (col a))) = lst (theta a) := by
  have h : ∀ i, i < 25 → theta a i = a i ^^^ thD (col a) (i % 5) := by
    intro i hi
    rw [theta_eq a i hi, thD, show (i % 5 + 4) % 5 = (i + 4) % 5 from by omega, show (i % 5 + 1) % 5 = (i + 1) % 5 from by omega]
  simp only [lst]
  rw [h 0 (by decide), h 1 (by decide), h 2 (by decide), h 3 (by decide), h 4 (by decide), h 5 (by decide), h 6 (by decide), h 7 (by decide), h 8 (by decide), h 9 (by decide), h 10 (by decide), h 11 (by decide), h 12 (by decide), h 13 (by decide), h 14 (by decide), h 15 (by decide), h 16 (by decide), h 17 (by decide), h 18 (by decide), h 19 (by decide), h 20 (by decide), h 21 (by decide), h 22 (by decide), h 23 (by decide), h 24 (by decide)]
  rfl
theorem turnK_eq (a : Nat → Nat) (ha : Ok a) : turnK (lst a) = lst (turn a) := by
  have h : ∀ i, i < 25 → turn a i = rotl (a (src.getD i (0, 0)).1) (src.getD i (0, 0)).2 := fun i hi => turn_eq a i hi (ha 0 (by decide))
  have h0 : rotl (a 0) 0 = a 0 := rotl_zero _ (ha 0 (by decide))
  have e0 : turn a 0 = a 0 := (h 0 (by decide)).trans h0
  have e1 : turn a 1 = rotl (a 6) 44 := h 1 (by decide)
  have e2 : turn a 2 = rotl (a 12) 43 := h 2 (by decide)
  have e3 : turn a 3 = rotl (a 18) 21 := h 3 (by decide)
  have e4 : turn a 4 = rotl (a 24) 14 := h 4 (by decide)
  have e5 : turn a 5 = rotl (a 3) 28 := h 5 (by decide)
  have e6 : turn a 6 = rotl (a 9) 20 := h 6 (by decide)
  have e7 : turn a 7 = rotl (a 10) 3 := h 7 (by decide)
  have e8 : turn a 8 = rotl (a 16) 45 := h 8 (by decide)
  have e9 : turn a 9 = rotl (a 22) 61 := h 9 (by decide)
  have e10 : turn a 10 = rotl (a 1) 1 := h 10 (by decide)
  have e11 : turn a 11 = rotl (a 7) 6 := h 11 (by decide)
  have e12 : turn a 12 = rotl (a 13) 25 := h 12 (by decide)
  have e13 : turn a 13 = rotl (a 19) 8 := h 13 (by decide)
  have e14 : turn a 14 = rotl (a 20) 18 := h 14 (by decide)
  have e15 : turn a 15 = rotl (a 4) 27 := h 15 (by decide)
  have e16 : turn a 16 = rotl (a 5) 36 := h 16 (by decide)
  have e17 : turn a 17 = rotl (a 11) 10 := h 17 (by decide)
  have e18 : turn a 18 = rotl (a 17) 15 := h 18 (by decide)
  have e19 : turn a 19 = rotl (a 23) 56 := h 19 (by decide)
  have e20 : turn a 20 = rotl (a 2) 62 := h 20 (by decide)
  have e21 : turn a 21 = rotl (a 8) 55 := h 21 (by decide)
  have e22 : turn a 22 = rotl (a 14) 39 := h 22 (by decide)
  have e23 : turn a 23 = rotl (a 15) 41 := h 23 (by decide)
  have e24 : turn a 24 = rotl (a 21) 2 := h 24 (by decide)
  simp only [lst, turnK]
  rw [e0, e1, e2, e3, e4, e5, e6, e7, e8, e9, e10, e11, e12, e13, e14, e15, e16, e17, e18, e19, e20, e21, e22, e23, e24, rotK_eq _ 44 20 rfl, rotK_eq _ 43 21 rfl, rotK_eq _ 21 43 rfl, rotK_eq _ 14 50 rfl, rotK_eq _ 28 36 rfl, rotK_eq _ 20 44 rfl, rotK_eq _ 3 61 rfl, rotK_eq _ 45 19 rfl, rotK_eq _ 61 3 rfl, rotK_eq _ 1 63 rfl, rotK_eq _ 6 58 rfl, rotK_eq _ 25 39 rfl, rotK_eq _ 8 56 rfl, rotK_eq _ 18 46 rfl, rotK_eq _ 27 37 rfl, rotK_eq _ 36 28 rfl, rotK_eq _ 10 54 rfl, rotK_eq _ 15 49 rfl, rotK_eq _ 56 8 rfl, rotK_eq _ 62 2 rfl, rotK_eq _ 55 9 rfl, rotK_eq _ 39 25 rfl, rotK_eq _ 41 23 rfl, rotK_eq _ 2 62 rfl]
theorem chiK_eq (a : Nat → Nat) : chiK (lst a) = lst (chi a) := by
  have e0 : chi a 0 = a 0 ^^^ andn (a 2) (a 1) := chi_eq a 0 (by decide)
  have e1 : chi a 1 = a 1 ^^^ andn (a 3) (a 2) := chi_eq a 1 (by decide)
  have e2 : chi a 2 = a 2 ^^^ andn (a 4) (a 3) := chi_eq a 2 (by decide)
  have e3 : chi a 3 = a 3 ^^^ andn (a 0) (a 4) := chi_eq a 3 (by decide)
  have e4 : chi a 4 = a 4 ^^^ andn (a 1) (a 0) := chi_eq a 4 (by decide)
  have e5 : chi a 5 = a 5 ^^^ andn (a 7) (a 6) := chi_eq a 5 (by decide)
  have e6 : chi a 6 = a 6 ^^^ andn (a 8) (a 7) := chi_eq a 6 (by decide)
  have e7 : chi a 7 = a 7 ^^^ andn (a 9) (a 8) := chi_eq a 7 (by decide)
  have e8 : chi a 8 = a 8 ^^^ andn (a 5) (a 9) := chi_eq a 8 (by decide)
  have e9 : chi a 9 = a 9 ^^^ andn (a 6) (a 5) := chi_eq a 9 (by decide)
  have e10 : chi a 10 = a 10 ^^^ andn (a 12) (a 11) := chi_eq a 10 (by decide)
  have e11 : chi a 11 = a 11 ^^^ andn (a 13) (a 12) := chi_eq a 11 (by decide)
  have e12 : chi a 12 = a 12 ^^^ andn (a 14) (a 13) := chi_eq a 12 (by decide)
  have e13 : chi a 13 = a 13 ^^^ andn (a 10) (a 14) := chi_eq a 13 (by decide)
  have e14 : chi a 14 = a 14 ^^^ andn (a 11) (a 10) := chi_eq a 14 (by decide)
  have e15 : chi a 15 = a 15 ^^^ andn (a 17) (a 16) := chi_eq a 15 (by decide)
  have e16 : chi a 16 = a 16 ^^^ andn (a 18) (a 17) := chi_eq a 16 (by decide)
  have e17 : chi a 17 = a 17 ^^^ andn (a 19) (a 18) := chi_eq a 17 (by decide)
  have e18 : chi a 18 = a 18 ^^^ andn (a 15) (a 19) := chi_eq a 18 (by decide)
  have e19 : chi a 19 = a 19 ^^^ andn (a 16) (a 15) := chi_eq a 19 (by decide)
  have e20 : chi a 20 = a 20 ^^^ andn (a 22) (a 21) := chi_eq a 20 (by decide)
  have e21 : chi a 21 = a 21 ^^^ andn (a 23) (a 22) := chi_eq a 21 (by decide)
  have e22 : chi a 22 = a 22 ^^^ andn (a 24) (a 23) := chi_eq a 22 (by decide)
  have e23 : chi a 23 = a 23 ^^^ andn (a 20) (a 24) := chi_eq a 23 (by decide)
  have e24 : chi a 24 = a 24 ^^^ andn (a 21) (a 20) := chi_eq a 24 (by decide)
  simp only [lst, chiK]
  rw [e0, e1, e2, e3, e4, e5, e6, e7, e8, e9, e10, e11, e12, e13, e14, e15, e16, e17, e18, e19, e20, e21, e22, e23, e24]
  rfl
theorem addC_eq (a : Nat → Nat) (c : Nat) : addC (lst a) c = lst (upd a 0 (a 0 ^^^ c)) := rfl
theorem rndK_eq (a : Nat → Nat) (ha : Ok a) (c : Nat) : rndK (lst a) c = lst (rnd a c) := by
  unfold rndK
  simp only [forceL_eq]
  rw [colK_eq, dK_eq, addK_eq, turnK_eq _ (theta_ok a ha), chiK_eq, addC_eq]
  rfl
theorem foldK_eq (l : List Nat) (hl : ∀ c ∈ l, c < 2 ^ 64) : ∀ (a : Nat → Nat), Ok a → l.foldl rndK (lst a) = lst (l.foldl rnd a) := by
  induction l with
  | nil => intro a _; rfl
  | cons c l ih =>
    intro a ha
    show l.foldl rndK (rndK (lst a) c) = _
    rw [rndK_eq a ha c]
    exact ih (fun d hd => hl d (by simp [hd])) _ (rnd_ok a c ha (hl c (by simp)))
theorem permK_eq (a : Nat → Nat) (ha : Ok a) : permK (lst a) = lst (perm a) := foldK_eq consts consts_lt a ha

theorem perm_zero : (forceL (permK (lst zero))).headD 0 = 17376452488221285863 := by decide +kernel
end Kec
end Go.Proofs.YtblfodhbimgonaaDoor
