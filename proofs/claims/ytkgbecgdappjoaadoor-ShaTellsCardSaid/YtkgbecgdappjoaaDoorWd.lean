/- padded, by its walk. -/
import Derived.Test.YtkgbecgdappjoaaDoorWc
namespace Go.Proofs.YtkgbecgdappjoaaDoor
open Go.RowKit Go.Shelf
set_option linter.unusedVariables false
set_option linter.unusedSimpArgs false

namespace Sha
def padM (l : List UInt8) (j : Nat) : List UInt8 := l ++ 128 :: List.replicate j 0
theorem padM_succ (l : List UInt8) (j : Nat) : padM l (j + 1) = padM l j ++ [0] := by simp [padM, List.replicate_succ']
theorem padM_length (l : List UInt8) (j : Nat) : (padM l j).length = l.length + 1 + j := by simp [padM]; omega
theorem padN_lt (n : Nat) : padN n < 64 := by unfold padN; omega
theorem padN_test (n j : Nat) (h : j < padN n) : (n + 1 + j) % 64 ≠ 56 := by unfold padN at h; omega
theorem padN_full (n : Nat) : (n + 1 + padN n) % 64 = 56 := by unfold padN; omega
theorem padL_eq (l : List UInt8) : padL l = padM l (padN l.length) ++ high (8 * l.length) 8 := rfl
end Sha

theorem list_at {W : World} {base n : Nat} {e : TypeId} {g cap : Nat} {xs : List Value} (h : Sl W base e 1 (.slice (some ⟨g, 0, none⟩) n cap) n xs) : ∀ j u, xs[j]? = some u → W.cell? ((⟨g, 0, none⟩ : Addr).add j) = some u := by
  intro j u hu
  have hj : j < n := by have := (List.getElem?_eq_some_iff.1 hu).1; have := h.1; omega
  rw [show (⟨g, 0, none⟩ : Addr).add j = ⟨g, j, none⟩ from by unfold Addr.add; split <;> simp_all]
  rw [h.cell j (by omega), hu]
theorem bytes_one (l : List UInt8) : ∀ u ∈ bytesV l, u.oneCell' = true := by
  intro u hu
  obtain ⟨b, _, rfl⟩ := List.mem_map.1 hu
  rfl

set_option maxRecDepth 100000 in
set_option maxHeartbeats 4000000 in
theorem padded_any (s : ByteArray) (hs : s.size ≤ 1048576) (w : World) :
    Calls Tryd.prog 18 #[.string s] w fun e W' => ∃ v, e = .returned v ∧ Sl W' w.heap.size 5 1 v (Sha.padL s.data.toList).length (bytesV (Sha.padL s.data.toList)) ∧ Below w.heap.size w W' := by
  obtain ⟨i0, hi, hz0, hz1, hz2⟩ := info_parts info5
  have hconv := run_bytes_of_string (P := Tryd.prog) w 9 26 5 s Tryd.underlying9 Tryd.underlying26 Tryd.underlying5
  have hS := Sl.of_string w 5 s (by omega)
  have hB0 : Below w.heap.size w (w.drew.alloc (.cells (bytesRow s (grownCap w s.size 0 5)) 5 ((bytesRow s (grownCap w s.size 0 5)).size, (bytesRow s (grownCap w s.size 0 5)).size + 1))) := (Below.refl _ _).drew.alloc (Nat.le_refl _) _
  have hlen : s.data.toList.length = s.size := by simp
  generalize grownCap w s.size 0 5 = cap at *
  generalize bytesRow s cap = C at *
  go_enter Tryd.func18, Tryd.ntmps18
  go_wp2_with (at_builtin; refine wpList_append_Sl _ rfl _ _ 26 rfl w.heap.size 5 i0 (.int .u8 0) 1 1 Tryd.underlying26 hi hz0 hz1 hz2 rfl (by decide) _ _ _ rfl (hS.alloc _) ⟨w.heap.size + 1, 0, none⟩ 1 1 [.int .u8 128] rfl rfl ?c1 ?c2 ?c3 ?c4 ?c5 ?_)
  case c1 => exact one_at ((show Holds_ _ (w.heap.size + 1) 5 _ by simpa using Holds_.new (w.alloc (.cells C 5 (C.size, C.size + 1))) 5 #[.int .u8 128]).drew)
  case c2 => exact one_ok rfl
  case c3 => unfold maxLen; omega
  case c4 => omega
  case c5 => simp; omega
  intro v1 w1 hS1 hg1 _
  have hB1 : Below w.heap.size w w1 := (((hB0.alloc (by simp) _).grown (w' := w1) hg1 (by simp; omega) (fun k e => by simp [Value.ownBlock] at e; omega)))
  have hS1' : Sl w1 w.heap.size 5 1 v1 (s.size + 1) (bytesV (Sha.padM s.data.toList 0)) := by
    have : Sha.padM s.data.toList 0 = s.data.toList ++ [128] := by simp [Sha.padM]
    rw [this, bytesV_append]
    exact hS1
  clear hS1 hg1 hS hconv hB0
  have hpl := Sha.padL_eq s.data.toList
  rw [hlen] at hpl
  have hHl := Sha.high_length (8 * s.size) 8
  have hH : ∀ w, Calls Tryd.prog 20 #[.int .u64 ((s.size : Int) * 8), .int .i64 8] w fun e W' => ∃ v, e = .returned v ∧ Sl W' w.heap.size 5 1 v 8 (bytesV (Sha.high (8 * s.size) 8)) ∧ Below w.heap.size w W' := fun w => by
    have h := high_any (8 * s.size) 8 w (by omega) (by omega)
    rw [show ((8 * s.size : Nat) : Int) = (s.size : Int) * 8 from by omega] at h
    exact h
  obtain ⟨N, hN⟩ : ∃ N, Sha.padN s.size = N := ⟨_, rfl⟩
  have hN2 : N < 64 := by rw [← hN]; exact Sha.padN_lt _
  rw [hN] at hpl
  have hcat : bytesV (Sha.padL s.data.toList) = bytesV (Sha.padM s.data.toList N) ++ bytesV (Sha.high (8 * s.size) 8) := by rw [hpl, bytesV_append]
  have hll : (Sha.padL s.data.toList).length = s.size + 1 + N + 8 := by rw [hpl, List.length_append, hHl, Sha.padM_length, hlen]
  have HP := Lib.hid hcat
  have HL := Lib.hid hll
  clear hpl hcat hll
  have hob := bytes_one (Sha.high (8 * s.size) 8)
  generalize Sha.high (8 * s.size) 8 = hb at *
  go_wp2
  go_loopw [3] (fun v wr => ∃ j : Nat, j ≤ N ∧ Sl wr w.heap.size 5 1 v (s.size + 1 + j) (bytesV (Sha.padM s.data.toList j)) ∧ Below w.heap.size w wr)
    (fun v _ => s.size + 1 + N - lenV v)
  case atStart => exact ⟨0, by omega, hS1', hB1⟩
  case round =>
    obtain ⟨j, hj, hS, hB⟩ := hrel
    obtain ⟨g, cap1, rfl, hg1, hg2, hg3, hg4⟩ := hS.form (by omega)
    obtain ⟨m, hm⟩ : ∃ m, s.size + 1 + j = m := ⟨_, rfl⟩
    rw [hm] at hS hg3 ⊢
    by_cases hlt : j < N
    · have ht : (((m : Int) % 64) != 56) = true := by
        have := Sha.padN_test s.size j (by omega)
        rw [bne_iff_ne]
        omega
      have hsucc := Sha.padM_succ s.data.toList j
      have hm2 : m ≤ 2000000 := by omega
      have Hm := Lib.hid hm
      have HS := Lib.hid hsucc
      have HN := Lib.hid hN
      clear hm hsucc hN
      go_wp2_with (at_builtin; refine wpList_append_Sl _ rfl _ _ 26 rfl w.heap.size 5 i0 (.int .u8 0) 1 1 Tryd.underlying26 hi hz0 hz1 hz2 rfl (by decide) _ _ _ rfl (hS.alloc _) ⟨wr.heap.size, 0, none⟩ 1 1 [.int .u8 0] rfl rfl ?d1 ?d2 ?d3 ?d4 ?d5 ?_)
      case d1 => exact one_at (Holds_.new _ _ _)
      case d2 => exact one_ok rfl
      case d3 => unfold maxLen; omega
      case d4 => omega
      case d5 => have := hB.size; simp; omega
      intro v2 w2 hS2 hg2 _
      have hB2 : Below w.heap.size w w2 := ((hB.alloc hB.size _).grown (w' := w2) hg2 (by have := hB.size; simp; omega) (fun k e => by simp [Value.ownBlock] at e; omega))
      go_wp2
      go_roundw
      case rel => exact ⟨j + 1, by omega, by rw [HS.out, bytesV_append, show s.size + 1 + (j + 1) = m + 1 from by rw [← Hm.out]; omega]; exact hS2, hB2⟩
      case measure =>
        obtain ⟨A, c, rfl⟩ := hS2.shape
        have := Hm.out
        simp [lenV]
        omega
    · obtain rfl : j = N := by omega
      have ht : (((m : Int) % 64) != 56) = false := by
        have := Sha.padN_full s.size
        rw [hN] at this
        rw [bne_eq_false_iff_eq]
        omega
      have hm2 : m ≤ 2000000 := by omega
      have Hm := Lib.hid hm
      have HN := Lib.hid hN
      clear hm hN
      go_wp2_with fail
      refine (hH _).mono ?_
      rintro e w2 ⟨v, rfl, hV, hb2⟩
      obtain ⟨g2, cap2, rfl, hq1, hq2, hq3, hq4⟩ := hV.form (by omega)
      have hS2 := hS.later hb2
      have hB2 := hB.trans (hb2.mono hB.size)
      have hsz := hB.size
      clear hH
      go_wp2_with (at_builtin; refine wpList_append_Sl _ rfl _ _ 26 rfl w.heap.size 5 i0 (.int .u8 0) 1 1 Tryd.underlying26 hi hz0 hz1 hz2 rfl (by decide) _ _ _ rfl hS2 ⟨g2, 0, none⟩ 8 cap2 (bytesV hb) rfl (by rw [bytesV_length, hHl]) ?e1 ?e2 ?e3 ?e4 ?e5 ?_)
      case e1 => exact list_at hV
      case e2 => exact hob
      case e3 => unfold maxLen; omega
      case e4 => omega
      case e5 => exact hB2.size
      intro v3 w3 hS3 hg3 _
      have hB3 : Below w.heap.size w w3 := hB2.grown (w' := w3) hg3 hB2.size (fun k e => (hS2.lt k e).1)
      go_wp2
      go_ret
      exact ⟨_, rfl, by rw [HL.out, HP.out, Hm.out]; exact hS3, hB3⟩
end Go.Proofs.YtkgbecgdappjoaaDoor
