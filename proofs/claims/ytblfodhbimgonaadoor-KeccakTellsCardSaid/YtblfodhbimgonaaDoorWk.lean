/- awake, by its walk. -/
import Derived.Test.YtblfodhbimgonaaDoorWj
import Derived.Test.YtblfodhbimgonaaDoorKecE
namespace Go.Proofs.YtblfodhbimgonaaDoor
open Go.RowKit Go.Shelf
set_option linter.unusedVariables false
set_option linter.unusedSimpArgs false

theorem cut_of (l m : List UInt8) (k : Nat) (h : l.take k = m) : (⟨l.toArray⟩ : ByteArray).extract 0 k = ⟨m.toArray⟩ := by
  subst h
  apply ByteArray.ext
  simp
theorem Table.below {w W : World} (h : Table w) (hb : Below w.heap.size w W) : Table W := Reads_.below h hb h.pos

set_option maxRecDepth 100000 in
set_option maxHeartbeats 4000000 in
theorem awake_any (w : World) (hT : Table w) :
    Calls Tryd.prog 10 #[] w fun e W' => e = .returned (.bool true) ∧ Below w.heap.size w W' := by
  have hp := Kec.perm_zero_lane
  go_enter Tryd.func10, Tryd.ntmps10
  go_wp2_with fail
  refine (sum_any ⟨#[]⟩ (by decide) w hT).mono ?_
  rintro e w1 ⟨rfl, hb1⟩
  have hT1 := hT.below hb1
  have ha1 : (⟨(Kec.sumL (⟨#[]⟩ : ByteArray).data.toList).toArray⟩ : ByteArray).size = 32 := Kec.sumL_length _
  have ha2 : (⟨(Kec.sumL (⟨#[]⟩ : ByteArray).data.toList).toArray⟩ : ByteArray).extract 0 6 = ⟨#[197, 210, 70, 1, 134, 247]⟩ := cut_of _ _ _ Kec.sum_nil
  generalize (⟨(Kec.sumL (⟨#[]⟩ : ByteArray).data.toList).toArray⟩ : ByteArray) = A at *
  go_wp2_with fail
  refine (sum_any ⟨#[97, 98, 99]⟩ (by decide) w1 hT1).mono ?_
  rintro e w2 ⟨rfl, hb2⟩
  have hT2 := hT1.below hb2
  have hc1 : (⟨(Kec.sumL (⟨#[97, 98, 99]⟩ : ByteArray).data.toList).toArray⟩ : ByteArray).size = 32 := Kec.sumL_length _
  have hc2 : (⟨(Kec.sumL (⟨#[97, 98, 99]⟩ : ByteArray).data.toList).toArray⟩ : ByteArray).extract 0 6 = ⟨#[78, 3, 101, 122, 234, 69]⟩ := cut_of _ _ _ Kec.sum_abc
  generalize (⟨(Kec.sumL (⟨#[97, 98, 99]⟩ : ByteArray).data.toList).toArray⟩ : ByteArray) = C at *
  go_wp2_with fail
  refine (pad_any ⟨#[120]⟩ (by decide) w2).mono ?_
  rintro e w3 ⟨rfl, hb3⟩
  have hT3 := hT2.below hb3
  have hd1 : (⟨(Kec.padL (⟨#[120]⟩ : ByteArray).data.toList).toArray⟩ : ByteArray).size = 136 := congrArg List.length Kec.pad_x
  have hd2 : (⟨(Kec.padL (⟨#[120]⟩ : ByteArray).data.toList).toArray⟩ : ByteArray).extract 0 2 = ⟨#[120, 1]⟩ := cut_of _ _ _ (congrArg (List.take 2) Kec.pad_x)
  have hd3 : (⟨(Kec.padL (⟨#[120]⟩ : ByteArray).data.toList).toArray⟩ : ByteArray).data[135]? = some 128 := (congrArg (fun l : List UInt8 => l[135]?) Kec.pad_x).trans rfl
  generalize (⟨(Kec.padL (⟨#[120]⟩ : ByteArray).data.toList).toArray⟩ : ByteArray) = D at *
  obtain ⟨hd4, hd5⟩ := Array.getElem?_eq_some_iff.1 hd3
  have hd6 : ((D[135]'(by omega)).toNat : Int) = 128 := by
    show ((D.data[135]'hd4).toNat : Int) = 128
    rw [hd5]; rfl
  go_wp2_with fail
  refine (permute_any Kec.zero Kec.zero_ok w3 hT3).mono ?_
  rintro e w4 ⟨rfl, hb4⟩
  have hl := row_get .u64 25 (fun i => ((Kec.perm Kec.zero i : Nat) : Int)) 0 (by omega)
  have hidx0 := fun W => run_index_row (P := Tryd.prog) 24 22 25 .u64 .i64 (fun i => ((Kec.perm Kec.zero i : Nat) : Int)) 0 Tryd.underlying24 Tryd.underlying22 info22 (by omega) W
  rw [hp] at hidx0
  have hidx : ∀ W, (Instr.index 24 (.agg (lanesV (Kec.perm Kec.zero))) (.int .i64 0)).run Tryd.prog W = .ok (.int .u64 17376452488221285863) W := fun W => hidx0 W
  clear hidx0 hl
  generalize Kec.perm Kec.zero = z at *
  go_wp2_with fail
  have B1 := hb1
  have B2 := B1.trans (hb2.mono hb1.size)
  have B3 := B2.trans (hb3.mono B2.size)
  go_ret
  exact ⟨rfl, B3.trans (hb4.mono B3.size)⟩
end Go.Proofs.YtblfodhbimgonaaDoor
