/- ShaAgain, by its walk. -/
import Derived.Test.YtkgbecgdappjoaaDoorLc
namespace Go.Proofs.YtkgbecgdappjoaaDoor
open Go.RowKit Go.Shelf
set_option linter.unusedVariables false
set_option linter.unusedSimpArgs false

set_option maxRecDepth 100000 in
set_option maxHeartbeats 4000000 in
theorem again_true (l : List UInt8) (hl : l.length ≤ 9223372036854775807) (w : World) (hT : Table w) :
    Calls Tryd.prog 7 #[.string (str l)] w fun e W' => e = .returned (.bool true) ∧ Below w.heap.size w W' := by
  obtain ⟨x, hx, key⟩ : ∃ x : List UInt8, x.length ≤ 50 ∧ ((50 < l.length ∧ (str l).extract 0 50 = str x) ∨ (l.length ≤ 50 ∧ (str l).extract 0 l.length = str x)) := by
    by_cases h : 50 < l.length
    · exact ⟨l.take 50, by rw [List.length_take]; omega, .inl ⟨h, str_cut l 50⟩⟩
    · exact ⟨l, by omega, .inr ⟨by omega, by rw [str_cut, List.take_length]⟩⟩
  have s1 := str_size l
  obtain ⟨c, hc⟩ : ∃ c, 60 + 12 * (((x.length : Int) + 31) / 32) = c := ⟨_, rfl⟩
  have hc0 : 60 ≤ c ∧ c ≤ 84 := by omega
  have Ha := fun w hT => sum_str x (by omega) w hT
  have hal := Sha.sumL_length x
  have Hr := fun w hT => runs_2 x (by omega) 1000 c hc (by decide) (by decide) (by omega) w hT
  clear hc
  generalize Sha.sumL x = a at *
  have Hb := fun w hT => sum_str a (by omega) w hT
  have hbl := Sha.sumL_length a
  obtain ⟨lf, hlf⟩ : ∃ lf, 1000 - c = lf := ⟨_, rfl⟩
  rw [hlf] at Hr
  have Hs := fun w hT => runs_2 a (by omega) lf 72 (by rw [hal]; decide) (by omega) (by omega) (by omega) w hT
  generalize Sha.sumL a = b at *
  obtain ⟨rs, hrs⟩ : ∃ rs, lf - 72 = rs := ⟨_, rfl⟩
  rw [hrs] at Hs
  have i1 : IntKind.i64.wrap (lf - 72) = rs := (IntWalk.i64_in _ (by omega)).trans (by omega)
  have s3 : (str b).size = 32 := hbl
  have hr2 : ∀ w, Calls Tryd.prog 12 #[.int .i64 2] w fun e W' => e = .returned (.agg (wordV (ofN 2))) ∧ Below w.heap.size w W' := ref_of 2 (by decide)
  generalize ofN 2 = f2 at *
  clear hlf hrs hc0 hal hbl
  generalize hA : str a = A at *
  generalize hBb : str b = B at *
  clear hA hBb
  rcases key with ⟨hc, hcut⟩ | ⟨hc, hcut⟩
  · have hm : min (l.length : Int) 50 = 50 := by omega
    go_enter Tryd.func7, Tryd.ntmps7
    go_wp2_with fail
    refine (awake_any w hT).mono ?_
    rintro e w1 ⟨rfl, B1⟩
    go_wp2_with fail
    refine (Ha _ (hT.later B1)).mono ?_
    rintro e w2 ⟨rfl, hb2⟩
    have B2 := B1.trans (hb2.mono B1.size)
    have hT2 := hT.later B2
    clear B1 hb2
    go_wp2_with fail
    refine (Hb _ hT2).mono ?_
    rintro e w3 ⟨rfl, hb3⟩
    have B3 := B2.trans (hb3.mono B2.size)
    have hT3 := hT2.later hb3
    clear B2 hb3 hT2
    go_wp2_with fail
    refine (Ha _ hT3).mono ?_
    rintro e w4 ⟨rfl, hb4⟩
    have B4 := B3.trans (hb4.mono B3.size)
    have hT4 := hT3.later hb4
    clear B3 hb4 hT3
    go_wp2_with fail
    refine (hr2 _).mono ?_
    rintro e w5 ⟨rfl, hb5⟩
    have B5 := B4.trans (hb5.mono B4.size)
    have hT5 := hT4.later hb5
    clear B4 hb5 hT4
    go_wp2_with fail
    refine (Hr _ hT5).mono ?_
    rintro e w6 ⟨rfl, hb6⟩
    have B6 := B5.trans (hb6.mono B5.size)
    have hT6 := hT5.later hb6
    clear B5 hb6 hT5
    go_wp2_with fail
    refine (hr2 _).mono ?_
    rintro e w7 ⟨rfl, hb7⟩
    have B7 := B6.trans (hb7.mono B6.size)
    have hT7 := hT6.later hb7
    clear B6 hb7 hT6
    go_wp2_with fail
    refine (Hs _ hT7).mono ?_
    rintro e w8 ⟨rfl, hb8⟩
    have B8 := B7.trans (hb8.mono B7.size)
    clear B7 hb8 hT7
    go_wp2_with fail
    go_ret
    exact ⟨rfl, B8⟩
  · have hm : min (l.length : Int) 50 = (l.length : Int) := by omega
    go_enter Tryd.func7, Tryd.ntmps7
    go_wp2_with fail
    refine (awake_any w hT).mono ?_
    rintro e w1 ⟨rfl, B1⟩
    go_wp2_with fail
    refine (Ha _ (hT.later B1)).mono ?_
    rintro e w2 ⟨rfl, hb2⟩
    have B2 := B1.trans (hb2.mono B1.size)
    have hT2 := hT.later B2
    clear B1 hb2
    go_wp2_with fail
    refine (Hb _ hT2).mono ?_
    rintro e w3 ⟨rfl, hb3⟩
    have B3 := B2.trans (hb3.mono B2.size)
    have hT3 := hT2.later hb3
    clear B2 hb3 hT2
    go_wp2_with fail
    refine (Ha _ hT3).mono ?_
    rintro e w4 ⟨rfl, hb4⟩
    have B4 := B3.trans (hb4.mono B3.size)
    have hT4 := hT3.later hb4
    clear B3 hb4 hT3
    go_wp2_with fail
    refine (hr2 _).mono ?_
    rintro e w5 ⟨rfl, hb5⟩
    have B5 := B4.trans (hb5.mono B4.size)
    have hT5 := hT4.later hb5
    clear B4 hb5 hT4
    go_wp2_with fail
    refine (Hr _ hT5).mono ?_
    rintro e w6 ⟨rfl, hb6⟩
    have B6 := B5.trans (hb6.mono B5.size)
    have hT6 := hT5.later hb6
    clear B5 hb6 hT5
    go_wp2_with fail
    refine (hr2 _).mono ?_
    rintro e w7 ⟨rfl, hb7⟩
    have B7 := B6.trans (hb7.mono B6.size)
    have hT7 := hT6.later hb7
    clear B6 hb7 hT6
    go_wp2_with fail
    refine (Hs _ hT7).mono ?_
    rintro e w8 ⟨rfl, hb8⟩
    have B8 := B7.trans (hb8.mono B7.size)
    clear B7 hb8 hT7
    go_wp2_with fail
    go_ret
    exact ⟨rfl, B8⟩
theorem again_str (s : ByteArray) (hs : s.size ≤ maxLen) (w : World) (hT : Table w) :
    Calls Tryd.prog 7 #[.string s] w fun e W' => e = .returned (.bool true) ∧ Below w.heap.size w W' := by
  have h := again_true s.data.toList (by simpa [maxLen] using hs) w hT
  rw [str_of] at h
  exact h
end Go.Proofs.YtkgbecgdappjoaaDoor
