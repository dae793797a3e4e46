/- The document's Pad, by its walk. -/
import Derived.Test.YtblfodhbimgonaaDoorBq
import Derived.Test.YtblfodhbimgonaaDoorKecP
namespace Go.Proofs.YtblfodhbimgonaaDoor
open Go.RowKit Go.Shelf
set_option linter.unusedVariables false
set_option linter.unusedSimpArgs false

/-- What the document puts behind a text. -/
def rpadM (n : Nat) : List UInt8 := ((List.replicate n (0 : UInt8)).set 0 1).set (n - 1) ((((List.replicate n (0 : UInt8)).set 0 1).getD (n - 1) 0) + 128)
theorem or_add (x : UInt8) (h : x = 0 ∨ x = 1) : x ||| 128 = x + 128 := by rcases h with rfl | rfl <;> rfl
theorem rpad_head (j : Nat) : (List.replicate (j + 1) (0 : UInt8)).set 0 1 = 1 :: List.replicate j 0 := by simp [List.replicate_succ]
theorem rpad_byte (n : Nat) (hn : 1 ≤ n) : ((List.replicate n (0 : UInt8)).set 0 1).getD (n - 1) 0 = if n = 1 then 1 else 0 := by
  obtain ⟨j, rfl⟩ : ∃ j, n = j + 1 := ⟨n - 1, by omega⟩
  rw [rpad_head, Nat.add_sub_cancel]
  cases j with
  | zero => rfl
  | succ j =>
    rw [if_neg (by omega), List.getD_cons_succ]
    simp [List.getD]
theorem padL_split (l : List UInt8) : Kec.padL l = l ++ rpadM (136 - l.length % 136) := by
  have hn : 136 - l.length % 136 = Kec.padN l.length + 1 := by unfold Kec.padN; omega
  unfold Kec.padL rpadM
  rw [hn]
  generalize Kec.padN l.length = j
  have hM : Kec.padM l j = l ++ (List.replicate (j + 1) (0 : UInt8)).set 0 1 := by rw [rpad_head]; rfl
  have hb := rpad_byte (j + 1) (by omega)
  rw [Nat.add_sub_cancel] at hb ⊢
  rw [hM]
  generalize (List.replicate (j + 1) (0 : UInt8)).set 0 1 = M at *
  have hg : (l ++ M).getD (l.length + j) 0 = M.getD j 0 := by
    rw [List.getD_eq_getElem?_getD, List.getElem?_append_right (by omega), Nat.add_sub_cancel_left, ← List.getD_eq_getElem?_getD]
  rw [hg, List.set_append_right (l.length + j) _ (by omega), Nat.add_sub_cancel_left, or_add]
  rw [hb]
  split
  · exact .inr rfl
  · exact .inl rfl

set_option maxRecDepth 100000 in
set_option maxHeartbeats 2000000 in
theorem rpad_str (l : List UInt8) (hl : l.length ≤ 1048576) (w : World) :
    Calls Tryd.prog 17 #[.string (str l)] w fun e W' => e = .returned (.string (str (Kec.padL l))) ∧ Below w.heap.size w W' := by
  have hsz := str_size l
  rw [padL_split]
  obtain ⟨r, hr⟩ : ∃ r, l.length % 136 = r := ⟨_, rfl⟩
  obtain ⟨n, hn⟩ : ∃ n, 136 - r = n := ⟨_, rfl⟩
  rw [hr, hn]
  have i1 : (l.length : Int).tmod 136 = (r : Int) := by rw [← hr]; rfl
  have i2 : (l.length : Int) % 136 = (r : Int) := by omega
  have i3 : (136 : Int) - (r : Int) = (n : Int) := by omega
  have hmk := run_zeros n (by omega) w
  have hS := Sl.of_zeros n (by omega) w
  have hB0 : Below w.heap.size w (w.alloc (.cells (bytesV (List.replicate n 0)).toArray 5)) := (Below.refl _ _).alloc (Nat.le_refl _) _
  obtain ⟨n1, hn1⟩ : ∃ n1, n - 1 = n1 := ⟨_, rfl⟩
  have b1 : (n1 : Int) < (n : Int) := by omega
  have b2 : (0 : Int) < (n : Int) := by omega
  have b3 : (n : Int) ≤ 136 := by omega
  have i4 : (n : Int) - 1 = (n1 : Int) := by omega
  have hlz : (List.replicate n (0 : UInt8)).length = n := List.length_replicate
  have c0 := hS.cell 0 (by omega)
  have f0 := hS.free 0 (by omega)
  rw [bytesV_get _ _ (by omega)] at c0
  generalize ((List.replicate n (0 : UInt8))[0]'(by omega)).toNat = u0 at c0
  have hS1 := hS.putByte 0 1
  have hB1 := hB0.setCell (p := ⟨w.heap.size, 0, none⟩) (Nat.le_refl _) (.int .u8 (((1 : UInt8).toNat : Nat) : Int))
  have hl1 : ((List.replicate n (0 : UInt8)).set 0 1).length = n := by rw [List.length_set, hlz]
  have c1 := hS1.cell n1 (by omega)
  have f1 := hS1.free n1 (by omega)
  rw [bytesV_get _ _ (by omega)] at c1
  have hbyte := rpad_byte n (by omega)
  rw [hn1] at hbyte
  have hget : ((List.replicate n (0 : UInt8)).set 0 1)[n1]'(by omega) = ((List.replicate n (0 : UInt8)).set 0 1).getD n1 0 := by simp [List.getD, show n1 < n by omega]
  rw [hget] at c1
  have hm : rpadM n = ((List.replicate n (0 : UInt8)).set 0 1).set n1 (((List.replicate n (0 : UInt8)).set 0 1).getD n1 0 + 128) := by unfold rpadM; rw [hn1]
  generalize ((List.replicate n (0 : UInt8)).set 0 1).getD n1 0 = q at *
  have hq : q.toNat ≤ 1 := by rw [hbyte]; split <;> decide
  have hq2 : ((q + 128).toNat : Int) = (q.toNat : Int) + 128 := by rw [UInt8.toNat_add]; have : (128 : UInt8).toNat = 128 := rfl; omega
  have hS2 := hS1.putByte n1 (q + 128)
  have hB2 := hB1.setCell (p := ⟨w.heap.size, n1, none⟩) (Nat.le_refl _) (.int .u8 ((q + 128).toNat : Int))
  rw [← hm] at hS2
  rw [hq2] at hS2 hB2
  have hq3 : (q.toNat : Int) ≤ 1 := by omega
  have hback := run_string_of_Sl (P := Tryd.prog) 27 9 5 Tryd.underlying27 Tryd.underlying5 Tryd.underlying9 hS2
  have e1 : (((1 : UInt8).toNat : Nat) : Int) = 1 := rfl
  rw [e1] at hB2 hback c1 f1
  have hap := str_append l (rpadM n)
  have hml : (rpadM n).length = n := by unfold rpadM; simp
  have hno : (9223372036854775807 < l.length + (rpadM n).length) = False := eq_false (by omega)
  clear hml
  clear hr hn hn1 hS hS1 hS2 hB0 hB1 hlz hl1 hget hbyte hm hq hq2 e1
  generalize rpadM n = m at *
  generalize q.toNat = qn at *
  generalize (w.alloc (.cells (bytesV (List.replicate n 0)).toArray 5)) = W0 at *
  go_enter Tryd.func17, Tryd.ntmps17
  go_wp2_with fail
  go_ret
  exact ⟨by rw [← hap]; rfl, hB2⟩
end Go.Proofs.YtblfodhbimgonaaDoor
