/- Texts of noughts, made; and small facts on texts. -/
import Derived.Test.YtblfodhbimgonaaDoorWk
namespace Go.Proofs.YtblfodhbimgonaaDoor
open Go.RowKit Go.Shelf
set_option linter.unusedVariables false
set_option linter.unusedSimpArgs false

theorem madeCells_bytes (n : Nat) : madeCells (Value.int .u8 0).cells n = (bytesV (List.replicate n 0)).toArray := by
  have hl : (bytesV (List.replicate n 0)).length = n := by rw [bytesV_length, List.length_replicate]
  have hz : ∀ i, i < n → (madeCells (Value.int .u8 0).cells n)[i]? = some (.int .u8 0) := by
    intro i hi
    simp only [madeCells, Value.cells]
    rw [Array.getElem?_map]
    simp [hi, Nat.mod_one]
  apply Array.ext_getElem?
  intro i
  by_cases hi : i < n
  · rw [hz i hi]
    have := bytesV_get (List.replicate n 0) i (by rw [List.length_replicate]; exact hi)
    simp at this
    simp [this]
  · rw [Array.getElem?_eq_none (by rw [size_madeCells]; omega), Array.getElem?_eq_none (by rw [List.size_toArray, hl]; omega)]

theorem run_zeros (n : Nat) (hn : n ≤ 2000000) (W : World) : (Instr.makeSlice 27 (.int .i64 (n : Int)) (.int .i64 (n : Int))).run Tryd.prog W = .ok (.slice (some ⟨W.heap.size, 0, none⟩) n n) (W.alloc (.cells (bytesV (List.replicate n 0)).toArray 5)) := by
  obtain ⟨i5, hi5, hz0, hz1, hz2⟩ := info_parts info5
  have h := run_make (P := Tryd.prog) W 27 5 i5 _ Tryd.underlying27 hi5 hz0 .i64 .i64 n n (by omega) (by omega) (by rw [hz2]; omega) (by omega)
  rw [hz1, Nat.mul_one] at h
  simp only [Int.toNat_natCast] at h
  rw [h, madeCells_bytes]
theorem Sl.of_zeros (n : Nat) (hn : n ≤ 2000000) (W : World) : Sl (W.alloc (.cells (bytesV (List.replicate n 0)).toArray 5)) W.heap.size 5 1 (.slice (some ⟨W.heap.size, 0, none⟩) n n) n (bytesV (List.replicate n 0)) := by
  have hl : (bytesV (List.replicate n 0)).length = n := by rw [bytesV_length, List.length_replicate]
  refine ⟨by rw [hl, Nat.mul_one], .inr ⟨W.heap.size, n, _, (0, 0), rfl, Nat.le_refl _, heap_alloc_new W _, .inr rfl, Nat.le_refl _, by unfold maxLen; omega, by rw [List.size_toArray, hl, Nat.mul_one], ?_⟩⟩
  exact List.take_of_length_le (by simp [bytesV_length])
/-- The text of a list of bytes. -/
def str (l : List UInt8) : ByteArray := ⟨l.toArray⟩
theorem str_size (l : List UInt8) : (str l).size = l.length := rfl
theorem str_data (l : List UInt8) : (str l).data.toList = l := by simp [str]
theorem str_of (s : ByteArray) : str s.data.toList = s := by
  apply ByteArray.ext
  simp [str]
theorem str_toList (l : List UInt8) : (str l).toList = l := by rw [ByteArray.toList_eq]; exact str_data l
theorem str_cut (l : List UInt8) (k : Nat) : (str l).extract 0 k = str (l.take k) := cut_of l _ k rfl
theorem str_at (l : List UInt8) (i : Nat) (h : i < (str l).size) : (str l)[i] = l[i]'h := by
  rfl
theorem str_getD (l : List UInt8) (i : Nat) (h : i < (str l).size) : (str l)[i] = l.getD i 0 := by
  rw [str_at l i h]
  have h' : i < l.length := h
  rw [List.getD_eq_getElem?_getD, List.getElem?_eq_getElem h']
  rfl
theorem str_append (l m : List UInt8) : str l ++ str m = str (l ++ m) := by
  apply ByteArray.ext
  simp [str]
theorem run_zstring (n : Nat) (hn : n ≤ 2000000) (W : World) : (convert 27 9 (.slice (some ⟨W.heap.size, 0, none⟩) n n)).run Tryd.prog (W.alloc (.cells (bytesV (List.replicate n 0)).toArray 5)) = .ok (.string (str (List.replicate n 0))) (W.alloc (.cells (bytesV (List.replicate n 0)).toArray 5)) :=
  run_string_of_Sl (P := Tryd.prog) 27 9 5 Tryd.underlying27 Tryd.underlying5 Tryd.underlying9 (Sl.of_zeros n hn W)

theorem pad_str (l : List UInt8) (hl : l.length ≤ 1048576) (w : World) :
    Calls Tryd.prog 16 #[.string (str l)] w fun e W' => e = .returned (.string (str (Kec.padL l))) ∧ Below w.heap.size w W' := by
  have h := pad_any (str l) hl w
  rw [str_data] at h
  exact h
theorem sum_str (l : List UInt8) (hl : l.length ≤ 1048576) (w : World) (hT : Table w) :
    Calls Tryd.prog 14 #[.string (str l)] w fun e W' => e = .returned (.tuple #[.string (str (Kec.sumL l)), .int .i64 0]) ∧ Below w.heap.size w W' := by
  have h := sum_any (str l) hl w hT
  rw [str_data] at h
  exact h
end Go.Proofs.YtblfodhbimgonaaDoor
