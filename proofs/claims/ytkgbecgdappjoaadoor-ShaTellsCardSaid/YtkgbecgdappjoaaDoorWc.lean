/- high, by its walk. -/
import Derived.Test.YtkgbecgdappjoaaDoorWb
namespace Go.Proofs.YtkgbecgdappjoaaDoor
open Go.RowKit Go.Shelf
set_option linter.unusedVariables false
set_option linter.unusedSimpArgs false

theorem info5 : (Tryd.prog.info? 5).map (fun i => (i.zero, i.size, i.bytes)) = some (some (.int .u8 0), 1, 1) := by kernel_rfl

theorem high_byte (n s : Nat) (hn : n < 18446744073709551616) : ((UInt8.ofNat (n / 2 ^ s)).toNat : Int) = (n : Int) / 2 ^ s % 256 := by
  rw [UInt8.toNat_ofNat']
  simp

set_option maxRecDepth 100000 in
set_option maxHeartbeats 2000000 in
theorem high_any (n many : Nat) (w : World) (hn : n < 18446744073709551616) (hm : many ≤ 8) :
    Calls Tryd.prog 20 #[.int .u64 n, .int .i64 many] w fun e W' => ∃ v, e = .returned v ∧ Sl W' w.heap.size 5 1 v many (bytesV (Sha.high n many)) ∧ Below w.heap.size w W' := by
  obtain ⟨i0, hi, hz0, hz1, hz2⟩ := info_parts info5
  go_enter Tryd.func20, Tryd.ntmps20
  go_wp2
  go_loopw [4, 7] (fun v i wr => ∃ k : Nat, k ≤ many ∧ i = .int .i64 k ∧ Sl wr w.heap.size 5 1 v k (bytesV (Sha.highTo n many k)) ∧ Below w.heap.size w wr)
    (fun _ i _ => many - (intOf i).toNat)
  case atStart => exact ⟨0, by omega, rfl, Sl.nil_ _ _ _ _, Below.refl _ _⟩
  case round =>
    obtain ⟨k, hk, rfl, hS, hB⟩ := hrel
    by_cases hlt : k < many
    · obtain ⟨p, hp⟩ : ∃ p, many - 1 = p := ⟨_, rfl⟩
      obtain ⟨r, hr⟩ : ∃ r, p - k = r := ⟨_, rfl⟩
      obtain ⟨s, hs⟩ : ∃ s, 8 * r = s := ⟨_, rfl⟩
      have hsucc := Sha.highTo_succ n many k
      rw [hp, hr, hs] at hsucc
      have hby := high_byte n s hn
      generalize UInt8.ofNat (n / 2 ^ s) = y at *
      have i1 : IntKind.i64.wrap ((many : Int) - 1) = (p : Int) := (IntWalk.i64_in _ (by omega)).trans (by omega)
      have i2 : IntKind.i64.wrap ((p : Int) - (k : Int)) = (r : Int) := (IntWalk.i64_in _ (by omega)).trans (by omega)
      have i3 : IntKind.i64.wrap (8 * (r : Int)) = (s : Int) := (IntWalk.i64_in _ (by omega)).trans (by omega)
      have i6 : ¬ (s : Int) < 0 := by omega
      have i7 : ¬ (64 : Int) ≤ (s : Int) := by omega
      have hlt' : (k : Int) < (many : Int) := by omega
      have HS := Lib.hid hsucc
      have HY := Lib.hid hby
      clear hsucc hby hp hr hs
      have hsz := hB.size
      go_wp2_with (at_builtin; refine wpList_append_Sl _ rfl _ _ 26 rfl w.heap.size 5 i0 (.int .u8 0) 1 1 Tryd.underlying26 hi hz0 hz1 hz2 rfl (by decide) _ _ _ rfl (hS.alloc _) ⟨wr.heap.size, 0, none⟩ 1 1 [.int .u8 (y.toNat : Int)] rfl rfl ?d1 ?d2 ?d3 ?d4 ?d5 ?_)
      case d1 =>
        rw [HY.out]
        intro j u h
        exact h
      case d2 => rfl
      case d3 => unfold maxLen; omega
      case d4 => omega
      case d5 => omega
      intro v2 w2 hS2 hg2 _
      have hB2 : Below w.heap.size w w2 := ((hB.alloc hB.size _).grown (w' := w2) hg2 (by simp; omega) (fun k e => (hS.lt k e).1))
      go_wp2
      go_roundw
      case rel => exact ⟨k + 1, by omega, by go_num, by rw [HS.out, bytesV_append]; exact hS2, hB2⟩
      case measure => simp [intOf]; omega
    · obtain rfl : k = many := by omega
      go_wp2
      go_ret
      exact ⟨_, rfl, hS, hB⟩
end Go.Proofs.YtkgbecgdappjoaaDoor
