/- The document's primes, by its walk. -/
import Derived.Test.YtkgbecgdappjoaaDoorNa
namespace Go.Proofs.YtkgbecgdappjoaaDoor
open Go.RowKit Go.Shelf
set_option linter.unusedVariables false
set_option linter.unusedSimpArgs false

def P64 : List Nat := [2, 3, 5, 7, 11, 13, 17, 19, 23, 29, 31, 37, 41, 43, 47, 53, 59, 61, 67, 71, 73, 79, 83, 89, 97, 101, 103, 107, 109, 113, 127, 131, 137, 139, 149, 151, 157, 163, 167, 173, 179, 181, 191, 193, 197, 199, 211, 223, 227, 229, 233, 239, 241, 251, 257, 263, 269, 271, 277, 281, 283, 293, 307, 311]
/-- The primes below n. -/
def pBelow (n : Nat) : List Nat := P64.filter fun p => decide (p < n)
def goodP (n : Nat) (l : List Nat) : Bool := l.all fun p => n % p != 0
theorem pBelow_step : ∀ n, n < 312 → 2 ≤ n → pBelow (n + 1) = if goodP n (pBelow n) = true then pBelow n ++ [n] else pBelow n := by decide +kernel
theorem pBelow_two : pBelow 2 = [] := by decide +kernel
theorem pBelow_all : (pBelow 312).length = 64 := by decide +kernel
theorem pBelow_8 : ∀ n, n < 313 → (pBelow n).length = 8 → pBelow n = P64.take 8 := by decide +kernel
theorem pBelow_64 : ∀ n, n < 313 → (pBelow n).length = 64 → pBelow n = P64.take 64 := by decide +kernel
theorem P64_two : ∀ p ∈ P64, 2 ≤ p ∧ p ≤ 311 := by decide
theorem pBelow_mem (n p : Nat) (h : p ∈ pBelow n) : 2 ≤ p ∧ p ≤ 311 := P64_two p (List.mem_filter.1 h).1
def gl (l : List Nat) (k : Nat) : Nat := l.getD k 0
theorem gl_get {l : List Nat} {k : Nat} (h : k < l.length) : l[k]? = some (gl l k) := by simp [gl, List.getD, h]
theorem gl_app (l : List Nat) (x k : Nat) (h : k < l.length) : gl l k = gl (l ++ [x]) k := by simp [gl, List.getD, List.getElem?_append_left h]
theorem gl_last (l : List Nat) (x : Nat) : gl (l ++ [x]) l.length = x := by simp [gl, List.getD]

set_option maxRecDepth 100000 in
set_option maxHeartbeats 2000000 in
theorem primes_any (m : Nat) (hm : m = 8 ∨ m = 64) (w : World) :
    Calls Tryd.prog 30 #[.int .i64 (m : Int)] w fun e W' => ∃ v', e = .returned v' ∧ Bi W' w.heap.size v' m (gl P64) ∧ Below w.heap.size w W' := by
  have hN : Bi w w.heap.size (.slice none 0 0) (pBelow 2).length (gl (pBelow 2)) := by rw [pBelow_two]; exact Bi.nil_ w w.heap.size _
  have h2l : (pBelow 2).length ≤ m := by rw [pBelow_two]; exact Nat.zero_le _
  go_enter Tryd.func30, Tryd.ntmps30
  go_wp2_with fail
  go_loopw [3, 4] (fun ov nv wr => ∃ n : Nat, 2 ≤ n ∧ n ≤ 312 ∧ nv = .int .i64 n ∧ (pBelow n).length ≤ m ∧ Bi wr w.heap.size ov (pBelow n).length (gl (pBelow n)) ∧ Below w.heap.size w wr) (fun _ nv _ => 312 - (intOf nv).toNat)
  case atStart => exact ⟨2, by omega, by omega, rfl, h2l, hN, Below.refl _ _⟩
  case round =>
    clear hN h2l
    obtain ⟨n, hn2, hn, rfl, hlm, hO, hB⟩ := hrel
    obtain ⟨A, cp, rfl⟩ := Sl.shape hO
    have hbs := hB.size
    by_cases hlt : (pBelow n).length < m
    · have j1 : ((pBelow n).length : Int) < (m : Int) := by omega
      have hn3 : n < 312 := by
        by_cases e : n = 312
        · rw [e, pBelow_all] at hlt; omega
        · omega
      have hstep := pBelow_step n hn3 hn2
      have hmem := pBelow_mem n
      generalize hq : pBelow n = q at *
      obtain ⟨L, hL⟩ : ∃ L, q.length = L := ⟨_, rfl⟩
      rw [hL] at hO hlm hlt j1
      rw [hL]
      go_wp2_with fail
      go_loopw [5, 6] (fun bv iv wq => ∃ i : Nat, i ≤ L ∧ iv = .int .i64 i ∧ bv = .bool (goodP n (q.take i)) ∧ Bi wq w.heap.size (.slice A L cp) L (gl q) ∧ Below w.heap.size w wq) (fun _ iv _ => L - (intOf iv).toNat)
      case atStart => exact ⟨0, by omega, rfl, rfl, hO, hB⟩
      case round =>
        clear hO hB hbs
        obtain ⟨i, hi, rfl, rfl, hO, hB⟩ := hrel
        by_cases hlt2 : i < L
        · have j2 : (i : Int) < (L : Int) := by omega
          have hgi := gl_get (l := q) (k := i) (by omega)
          have htk : goodP n (q.take (i + 1)) = (goodP n (q.take i) && (n % gl q i != 0)) := by
            unfold goodP
            rw [List.take_add_one, hgi]
            simp
          have hp2 := hmem (gl q i) (List.mem_of_getElem? hgi)
          obtain ⟨go, co, hform, _, _, _, _⟩ := Sl.form hO (by omega)
          obtain rfl : A = some ⟨go, 0, none⟩ := (Value.slice.inj hform).1
          obtain rfl : cp = co := (Value.slice.inj hform).2.2
          have c1 := hO.cell i hlt2
          generalize goodP n (q.take i) = b at *
          generalize gl q i = p at *
          obtain ⟨r, hr⟩ : ∃ r, n % p = r := ⟨_, rfl⟩
          have k1 : (n : Int).tmod (p : Int) = (r : Int) := by rw [← hr]; rfl
          have k2 : (n : Int) % (p : Int) = (r : Int) := by rw [← hr]; rfl
          have k3 : ((p : Int) = 0) = False := eq_false (by omega)
          have k4 : ((r : Int) != 0) = (r != 0) := by rw [Bool.eq_iff_iff]; simp
          rw [hr] at htk
          have HT := Lib.hid htk
          have p2 : (2 : Int) ≤ (p : Int) := by omega
          clear hform hgi htk hp2 hr hmem hstep
          cases b with
          | true =>
            go_wp2_with fail
            go_roundw
            case rel => exact ⟨i + 1, by omega, by go_num, by rw [HT.out]; simp, hO, hB⟩
            case measure => simp [intOf]; omega
          | false =>
            go_wp2_with fail
            go_roundw
            case rel => exact ⟨i + 1, by omega, by go_num, by rw [HT.out]; simp, hO, hB⟩
            case measure => simp [intOf]; omega
        · have hiL : i = L := by omega
          rw [show q.take i = q from by rw [hiL, ← hL, List.take_length]]
          have j3 : ¬ (i : Int) < (L : Int) := by omega
          clear hlt2 hi hiL
          by_cases hg : goodP n q = true
          · rw [if_pos hg] at hstep
            rw [hg]
            have hO2 : Bi wr w.heap.size (.slice A L cp) L (gl (q ++ [n])) := hO.congr (fun k hk => gl_app q n k (by omega))
            have hgn : gl (q ++ [n]) L = n := by rw [← hL]; exact gl_last q n
            have hbs := hB.size
            have HS := Lib.hid hstep
            clear hstep hmem hO hg
            go_wp2_with (at_builtin; go_loud (refine wpList_append_one rfl _ _ rfl w.heap.size L _ (gl (q ++ [n])) rfl (hO2.alloc _) wr.heap.size n rfl (Holds_.new wr 3 _) hgn.symm (by omega) ?d1 ?_))
            case d1 => first | omega | (simp; omega)
            intro v' w' hO' hb'
            have hB' : Below w.heap.size w w' := (hB.alloc hbs _).trans hb'
            go_wp2_with fail
            go_roundw
            case rel => exact ⟨n + 1, by omega, by omega, by go_num, by rw [HS.out, List.length_append, hL]; simp; omega, by rw [HS.out, List.length_append, hL]; exact hO', hB'⟩
            case measure => simp [intOf]; omega
          · rw [if_neg hg] at hstep
            have hg' : goodP n q = false := by simpa using hg
            rw [hg']
            have HS := Lib.hid hstep
            clear hstep hmem hg hg'
            go_wp2_with fail
            go_roundw
            case rel => exact ⟨n + 1, by omega, by omega, by go_num, by rw [HS.out, hL]; exact hlm, by rw [HS.out, hL]; exact hO, hB⟩
            case measure => simp [intOf]; omega
    · have hlq : (pBelow n).length = m := by omega
      have hqe : pBelow n = P64.take m := by
        rcases hm with rfl | rfl
        · exact pBelow_8 n (by omega) hlq
        · exact pBelow_64 n (by omega) hlq
      have hm64 : m ≤ 64 := by omega
      rw [hlq] at hO
      have hO2 : Bi wr w.heap.size (.slice A m cp) m (gl P64) := by
        have h2 := hO.congr (f' := gl P64) (fun k hk => by
          rw [hqe]
          unfold gl
          rw [List.getD_eq_getElem?_getD, List.getD_eq_getElem?_getD, List.getElem?_take_of_lt hk])
        exact h2
      rw [hlq]
      clear hlq hqe hO hlt hlm
      have j1 : ¬ (m : Int) < (m : Int) := by omega
      go_wp2_with fail
      go_ret
      exact ⟨_, rfl, hO2, hB⟩
end Go.Proofs.YtkgbecgdappjoaaDoor
