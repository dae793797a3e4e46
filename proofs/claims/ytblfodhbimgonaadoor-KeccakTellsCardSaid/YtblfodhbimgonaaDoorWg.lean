/- Pad, by its walk. -/
import Derived.Test.YtblfodhbimgonaaDoorWa
import Derived.Test.YtblfodhbimgonaaDoorKecB
import Derived.Test.YtblfodhbimgonaaDoorSl
namespace Go.Proofs.YtblfodhbimgonaaDoor
open Go.RowKit Go.Shelf
set_option linter.unusedVariables false
set_option linter.unusedSimpArgs false

theorem info5 : (Tryd.prog.info? 5).map (fun i => (i.zero, i.size, i.bytes)) = some (some (.int .u8 0), 1, 1) := by kernel_rfl

set_option maxRecDepth 100000 in
set_option maxHeartbeats 2000000 in
theorem pad_any (s : ByteArray) (hs : s.size ≤ 1048576) (w : World) :
    Calls Tryd.prog 16 #[.string s] w fun e W' => e = .returned (.string ⟨(Kec.padL s.data.toList).toArray⟩) ∧ Below w.heap.size w W' := by
  obtain ⟨i0, hi, hz0, hz1, hz2⟩ := info_parts info5
  have hconv := run_bytes_of_string (P := Tryd.prog) w 9 27 5 s Tryd.underlying9 Tryd.underlying27 Tryd.underlying5
  have hS := Sl.of_string w 5 s (by omega)
  have hB0 : Below w.heap.size w (w.drew.alloc (.cells (bytesRow s (grownCap w s.size 0 5)) 5 ((bytesRow s (grownCap w s.size 0 5)).size, (bytesRow s (grownCap w s.size 0 5)).size + 1))) := (Below.refl _ _).drew.alloc (Nat.le_refl _) _
  have hlen : s.data.toList.length = s.size := by simp
  generalize grownCap w s.size 0 5 = cap at *
  generalize bytesRow s cap = C at *
  go_enter Tryd.func16, Tryd.ntmps16
  go_wp2_with (at_builtin; refine wpList_append_Sl _ rfl _ _ 27 rfl w.heap.size 5 i0 (.int .u8 0) 1 1 Tryd.underlying27 hi hz0 hz1 hz2 rfl (by decide) _ _ _ rfl (hS.alloc _) ⟨w.heap.size + 1, 0, none⟩ 1 1 [.int .u8 1] rfl rfl ?c1 ?c2 ?c3 ?c4 ?c5 ?_)
  case c1 => exact one_at ((show Holds_ _ (w.heap.size + 1) 5 _ by simpa using Holds_.new (w.alloc (.cells C 5 (C.size, C.size + 1))) 5 #[.int .u8 1]).drew)
  case c2 => exact one_ok rfl
  case c3 => unfold maxLen; omega
  case c4 => omega
  case c5 => simp; omega
  intro v1 w1 hS1 hg1 _
  have hB1 : Below w.heap.size w w1 := (((hB0.alloc (by simp) _).grown (w' := w1) hg1 (by simp; omega) (fun k e => by simp [Value.ownBlock] at e; omega)))
  have hS1' : Sl w1 w.heap.size 5 1 v1 (s.size + 1) (bytesV (Kec.padM s.data.toList 0)) := by
    have : Kec.padM s.data.toList 0 = s.data.toList ++ [1] := by simp [Kec.padM]
    rw [this, bytesV_append]
    exact hS1
  clear hS1 hg1 hS hconv hB0
  obtain ⟨N, hN⟩ : ∃ N, Kec.padN s.size = N := ⟨_, rfl⟩
  have hN2 : N < 136 := by rw [← hN]; exact Kec.padN_lt _
  go_wp2
  go_loopw [3] (fun v wr => ∃ j : Nat, j ≤ N ∧ Sl wr w.heap.size 5 1 v (s.size + 1 + j) (bytesV (Kec.padM s.data.toList j)) ∧ Below w.heap.size w wr)
    (fun v _ => s.size + 1 + N - lenV v)
  case atStart => exact ⟨0, by omega, hS1', hB1⟩
  case round =>
    obtain ⟨j, hj, hS, hB⟩ := hrel
    obtain ⟨g, cap1, rfl, hg1, hg2, hg3, hg4⟩ := hS.form (by omega)
    obtain ⟨m, hm⟩ : ∃ m, s.size + 1 + j = m := ⟨_, rfl⟩
    rw [hm] at hS hg3 ⊢
    by_cases hlt : j < N
    · have ht : (((m : Int) % 136) != 0) = true := by
        have := Kec.padN_test s.size j (by omega)
        rw [bne_iff_ne]
        omega
      have hsucc := Kec.padM_succ s.data.toList j
      have hm2 : m ≤ 2000000 := by omega
      have Hm := Lib.hid hm
      have HS := Lib.hid hsucc
      have HN := Lib.hid hN
      clear hm hsucc hN
      go_wp2_with (at_builtin; refine wpList_append_Sl _ rfl _ _ 27 rfl w.heap.size 5 i0 (.int .u8 0) 1 1 Tryd.underlying27 hi hz0 hz1 hz2 rfl (by decide) _ _ _ rfl (hS.alloc _) ⟨wr.heap.size, 0, none⟩ 1 1 [.int .u8 0] rfl rfl ?d1 ?d2 ?d3 ?d4 ?d5 ?_)
      case d1 => exact one_at (Holds_.new _ _ _)
      case d2 => exact one_ok rfl
      case d3 => unfold maxLen; omega
      case d4 => omega
      case d5 => have := hB.size; simp; omega
      intro v2 w2 hS2 hg2 _
      have hB2 : Below w.heap.size w w2 := ((hB.alloc hB.size _).grown (w' := w2) hg2 (by have := hB.size; simp; omega) (fun k e => by simp [Value.ownBlock] at e; omega))
      go_wp2
      go_roundw
      case rel => exact ⟨j + 1, by omega, by rw [HS.out, bytesV_append, show s.size + 1 + (j + 1) = m + 1 from by rw [← Hm.out]; omega]; exact hS2, hB2⟩
      case measure =>
        obtain ⟨A, c, rfl⟩ := hS2.shape
        have := Hm.out
        simp [lenV]
        omega
    · obtain rfl : j = N := by omega
      have ht : (((m : Int) % 136) != 0) = false := by
        have := Kec.padN_full s.size
        rw [hN] at this
        rw [bne_eq_false_iff_eq]
        omega
      have hm2 : m ≤ 2000000 := by omega
      have hm1 : 1 ≤ m := by omega
      have hml : (Kec.padM s.data.toList j).length = m := by rw [Kec.padM_length, hlen, ← hm]
      obtain ⟨x, hx⟩ : ∃ x : UInt8, (Kec.padM s.data.toList j).getD (m - 1) 0 = x := ⟨_, rfl⟩
      have hc : wr.cell? ⟨g, m - 1, none⟩ = some (.int .u8 (x.toNat : Int)) := by
        rw [hS.cell (m - 1) (by omega), bytesV_get _ _ (by omega), ← hx]
        simp [List.getD, show m - 1 < (Kec.padM s.data.toList j).length by omega]
      have hf : wr.frozen? ⟨g, m - 1, none⟩ = false := hS.free (m - 1) (by omega)
      have hpad : Kec.padL s.data.toList = (Kec.padM s.data.toList j).set (m - 1) (x ||| 128) := by
        unfold Kec.padL
        rw [hlen, hN, show s.size + j = m - 1 from by omega, hx]
      have HP := Lib.hid hpad
      clear hm hN hpad hx hml
      have hor : bits .or .u8 (x.toNat : Int) 128 = ((x ||| 128).toNat : Int) := by
        rw [show (128 : Int) = ((128 : Nat) : Int) from rfl, u8_or_nat _ _ x.toNat_lt (by omega), UInt8.toNat_or]
        rfl
      generalize x ||| 128 = y at hor HP
      have hS2 := hS.putByte (m - 1) y
      have hback := run_string_of_Sl (P := Tryd.prog) 27 9 5 Tryd.underlying27 Tryd.underlying5 Tryd.underlying9 hS2
      have hB2 := hB.setCell (p := ⟨g, m - 1, none⟩) hg1 (.int .u8 (y.toNat : Int))
      go_wp2_with fail
      go_ret
      exact ⟨by rw [HP.out]; rfl, hB2⟩
end Go.Proofs.YtblfodhbimgonaaDoor
