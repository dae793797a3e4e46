/- The document's Hash and Sum, by their walks. -/
import Derived.Test.YtkgbecgdappjoaaDoorNj
namespace Go.Proofs.YtkgbecgdappjoaaDoor
open Go.RowKit Go.Shelf
set_option linter.unusedVariables false
set_option linter.unusedSimpArgs false

theorem str_mid (l : List UInt8) (i j : Nat) : (str l).extract i j = str ((l.drop i).take (j - i)) := by
  apply ByteArray.ext
  simp [str]
theorem bytes_holds {W : World} {g n : Nat} {M : List UInt8} (h : Holds_ W g 5 (bytesV M).toArray) (hn : M.length = n) (hm : n ≤ 100000) : Sl W g 5 1 (.slice (some ⟨g, 0, none⟩) n n) n (bytesV M) := by
  refine ⟨by rw [bytesV_length, hn, Nat.mul_one], .inr ⟨g, n, _, (0, 0), rfl, Nat.le_refl _, h, .inr rfl, Nat.le_refl _, by unfold maxLen; omega, by rw [List.size_toArray, bytesV_length, hn, Nat.mul_one], ?_⟩⟩
  exact List.take_of_length_le (by rw [bytesV_length, hn, Nat.mul_one]; exact Nat.le_refl _)
theorem high_four (n : Nat) (hn : n < 4294967296) (x0 x1 x2 x3 : Nat) (h0 : n / 16777216 = x0) (h1 : n / 65536 % 256 = x1) (h2 : n / 256 % 256 = x2) (h3 : n % 256 = x3) :
    (bytesV (Sha.high n 4)).toArray = #[.int .u8 ((x0 : Nat) : Int), .int .u8 ((x1 : Nat) : Int), .int .u8 ((x2 : Nat) : Int), .int .u8 ((x3 : Nat) : Int)] := by
  have e : Sha.high n 4 = [UInt8.ofNat (n / 2 ^ 24), UInt8.ofNat (n / 2 ^ 16), UInt8.ofNat (n / 2 ^ 8), UInt8.ofNat (n / 2 ^ 0)] := rfl
  rw [e]
  have t : ∀ m : Nat, (UInt8.ofNat m).toNat = m % 256 := fun m => by simp
  simp only [bytesV, List.map_cons, List.map_nil, t]
  have g0 : n / 2 ^ 24 % 256 = x0 := by rw [← h0]; omega
  have g1 : n / 2 ^ 16 % 256 = x1 := by rw [← h1]
  have g2 : n / 2 ^ 8 % 256 = x2 := by rw [← h2]
  have g3 : n / 2 ^ 0 % 256 = x3 := by rw [← h3]; simp
  rw [g0, g1, g2, g3]

set_option maxRecDepth 100000 in
set_option maxHeartbeats 4000000 in
theorem rhash_str (l : List UInt8) (hl : l.length ≤ 1048576) (w : World) :
    Calls Tryd.prog 21 #[.string (str l)] w fun e W' => e = .returned (.string (str (Sha.sumL l))) ∧ Below w.heap.size w W' := by
  have hpf := Sha.padL_length l
  have hsum : Sha.sumL l = Sha.outTo (Sha.mixL (Sha.padL l) (List.range ((Sha.padL l).length / 64))) 8 := rfl
  have hpd := fun w => rpad_any l hl w
  generalize Sha.padL l = p at *
  obtain ⟨q, hq⟩ : ∃ q, (l.length + 8) / 64 + 1 = q := ⟨_, rfl⟩
  rw [hq] at hpf
  have hq2 : p.length / 64 = q := by omega
  have hql : q ≤ 20000 := by omega
  rw [hq2] at hsum
  rw [hsum]
  have hsz : (str p).size = p.length := rfl
  have hr1 : ∀ w, Calls Tryd.prog 26 #[.int .i64 8, .bool false] w fun e W' => ∃ v', e = .returned v' ∧ Bi W' w.heap.size v' 8 (rootsF false) ∧ Below w.heap.size w W' := fun w => roots_any 8 (.inl rfl) false w
  have hr2 : ∀ w, Calls Tryd.prog 26 #[.int .i64 64, .bool true] w fun e W' => ∃ v', e = .returned v' ∧ Bi W' w.heap.size v' 64 (rootsF true) ∧ Below w.heap.size w W' := fun w => roots_any 64 (.inr rfl) true w
  clear hsum hq hq2
  go_enter Tryd.func21, Tryd.ntmps21
  go_wp2_with fail
  refine (hr1 _).mono ?_
  rintro e w1 ⟨hv, rfl, hH, hB1⟩
  go_wp2_with fail
  refine (hr2 _).mono ?_
  rintro e w2 ⟨kv, rfl, hK, hb2⟩
  obtain ⟨gk, ck, rfl, hgk, _, _, _⟩ := Sl.form hK (by omega)
  have hH := hH.later hb2
  have hB2 := hB1.trans (hb2.mono hB1.size)
  have hK := Bi.lower hK hB1.size
  clear hB1 hb2
  go_wp2_with fail
  refine (hpd _).mono ?_
  rintro e w3 ⟨rfl, hb3⟩
  have hH := (hH.later hb3).congr (f' := Sha.mixL p (List.range 0)) roots_start
  have hK := (hK.later hb3).congr (f' := Sha.cF) roots_consts
  have hB3 := hB2.trans (hb3.mono hB2.size)
  clear hB2 hb3 hr1 hr2 hpd
  go_wp2_with fail
  go_loopw [3, 6] (fun hv fv wr => ∃ c : Nat, c ≤ q ∧ fv = .int .i64 ((64 * c : Nat) : Int) ∧ Bi wr w.heap.size hv 8 (Sha.mixL p (List.range c)) ∧ Bi wr w.heap.size (.slice (some ⟨gk, 0, none⟩) 64 ck) 64 Sha.cF ∧ Below w.heap.size w wr) (fun _ fv _ => 64 * q - (intOf fv).toNat)
  case atStart => exact ⟨0, by omega, rfl, hH, hK, hB3⟩
  case round =>
    clear hH hK hB3
    obtain ⟨c, hc, rfl, hH, hK, hB⟩ := hrel
    obtain ⟨fr, hfr⟩ : ∃ fr, 64 * c = fr := ⟨_, rfl⟩
    rw [hfr]
    by_cases hlt : c < q
    · obtain ⟨gh, ch, rfl, hgh, _, _, _⟩ := Sl.form hH (by omega)
      have j1 : (fr : Int) < (p.length : Int) := by omega
      have hok := Sha.mixL_ok p (List.range c)
      have hnx : Sha.mixL p (List.range (c + 1)) = Sha.mix (Sha.mixL p (List.range c)) ((p.drop fr).take 64) := by rw [List.range_succ, Sha.mixL_snoc, hfr]
      obtain ⟨f2, hf2⟩ : ∃ f2, fr + 64 = f2 := ⟨_, rfl⟩
      have hcut : (str p).extract fr f2 = str ((p.drop fr).take 64) := by rw [str_mid, show f2 - fr = 64 by omega]
      have hbl : ((p.drop fr).take 64).length = 64 := by rw [List.length_take, List.length_drop]; omega
      have hblk := fun w h1 h2 => rblock_any w.heap.size gh ch w.heap.size gk ck _ hok ((p.drop fr).take 64) hbl w h1 h2
      have hbk := rblock_any _ gh ch _ gk ck _ hok ((p.drop fr).take 64) hbl wr hH hK
      rw [← hnx] at hbk
      obtain ⟨hn, hhn⟩ : ∃ hn, Sha.mixL p (List.range (c + 1)) = hn := ⟨_, rfl⟩
      rw [hhn] at hbk
      have HG := Lib.hid hhn
      clear hnx hhn
      generalize (p.drop fr).take 64 = b at *
      have k1 : (fr : Int) + 64 = (f2 : Int) := by omega
      have j2 : (fr : Int) ≤ (f2 : Int) := by omega
      have j3 : (f2 : Int) ≤ (p.length : Int) := by omega
      have j4 : fr ≤ f2 := by omega
      have j5 : f2 ≤ p.length := by omega
      have hfrl : (fr : Int) ≤ 2000000 := by omega
      have hbs := hB.size
      clear hblk hok
      go_wp2_with fail
      refine hbk.mono ?_
      rintro e w4 ⟨v4, rfl, h4, hb4⟩
      have hH4 := h4.lower hbs
      have hK4 := hK.later hb4
      have hB4 := hB.trans (hb4.mono hbs)
      clear hbk h4 hb4 hH hK hB
      go_wp2_with fail
      go_roundw
      case rel => exact ⟨c + 1, by omega, by rw [show 64 * (c + 1) = fr + 64 by omega]; go_num, by rw [HG.out]; exact hH4, hK4, hB4⟩
      case measure => simp [intOf]; omega
    · have hcq : c = q := by omega
      rw [hcq] at hH
      have j1 : ¬ (fr : Int) < (p.length : Int) := by omega
      have hok := Sha.mixL_ok p (List.range q)
      obtain ⟨h, hhd⟩ : ∃ h, Sha.mixL p (List.range q) = h := ⟨_, rfl⟩
      rw [hhd] at hH hok
      have HG := Lib.hid hhd
      clear hhd hfr hcq hpf hlt hc hK
      obtain ⟨gh, ch, rfl, hgh, hgh2, _, _⟩ := Sl.form hH (by omega)
      have hbs := hB.size
      have hS0 : Sl wr wr.heap.size 5 1 (.slice none 0 0) 0 (bytesV (Sha.outTo h 0)) := Sl.nil_ _ _ _ _
      go_wp2_with fail
      generalize hbv : wr.heap.size = bv at *
      go_loopw [7, 8] (fun ov iv wq => ∃ i : Nat, i ≤ 8 ∧ iv = .int .i64 i ∧ Sl wq bv 5 1 ov (4 * i) (bytesV (Sha.outTo h i)) ∧ Bi wq w.heap.size (.slice (some ⟨gh, 0, none⟩) 8 ch) 8 h ∧ Below w.heap.size w wq ∧ bv ≤ wq.heap.size) (fun _ iv _ => 8 - (intOf iv).toNat)
      case atStart => exact ⟨0, by omega, rfl, hS0, hH, hB, by omega⟩
      case round =>
        clear hS0 hH hB
        obtain ⟨i, hi, rfl, hS, hH, hB, hbq⟩ := hrel
        by_cases hlt : i < 8
        · have j2 : (i : Int) < 8 := by omega
          have c1 := hH.cell i hlt
          have hnl := hok i hlt
          have hsucc := Sha.outTo_succ h i
          generalize h i = n at *
          obtain ⟨x0, h0⟩ : ∃ x, n / 16777216 = x := ⟨_, rfl⟩
          obtain ⟨z1, hz1⟩ : ∃ x, n / 65536 = x := ⟨_, rfl⟩
          obtain ⟨x1, h1⟩ : ∃ x, z1 % 256 = x := ⟨_, rfl⟩
          obtain ⟨z2, hz2⟩ : ∃ x, n / 256 = x := ⟨_, rfl⟩
          obtain ⟨x2, h2⟩ : ∃ x, z2 % 256 = x := ⟨_, rfl⟩
          obtain ⟨x3, h3⟩ : ∃ x, n % 256 = x := ⟨_, rfl⟩
          have hfour := high_four n hnl x0 x1 x2 x3 h0 (by rw [hz1, h1]) (by rw [hz2, h2]) h3
          have k1 : (n : Int).tdiv 16777216 = (x0 : Int) := by rw [← h0]; rfl
          have k2 : (n : Int).tdiv 65536 = (z1 : Int) := by rw [← hz1]; rfl
          have k3 : (z1 : Int).tmod 256 = (x1 : Int) := by rw [← h1]; rfl
          have k4 : (n : Int).tdiv 256 = (z2 : Int) := by rw [← hz2]; rfl
          have k5 : (z2 : Int).tmod 256 = (x2 : Int) := by rw [← h2]; rfl
          have k6 : (n : Int).tmod 256 = (x3 : Int) := by rw [← h3]; rfl
          have l1 : (n : Int) / 16777216 = (x0 : Int) := by omega
          have l2 : (n : Int) / 65536 = (z1 : Int) := by omega
          have l3 : (z1 : Int) % 256 = (x1 : Int) := by omega
          have l4 : (n : Int) / 256 = (z2 : Int) := by omega
          have l5 : (z2 : Int) % 256 = (x2 : Int) := by omega
          have l6 : (n : Int) % 256 = (x3 : Int) := by omega
          have hnl' : n < 4294967296 := hnl
          have b0 : (n : Int) < 4294967296 := by omega
          have b1 : (x0 : Int) < 256 := by omega
          have b2 : (x1 : Int) < 256 := by omega
          have b3 : (x2 : Int) < 256 := by omega
          have b4 : (x3 : Int) < 256 := by omega
          have b5 : (z1 : Int) < 65536 := by omega
          have b6 : (z2 : Int) < 16777216 := by omega
          have hM : Sl (wr.alloc (.cells #[.int .u8 ((x0 : Nat) : Int), .int .u8 ((x1 : Nat) : Int), .int .u8 ((x2 : Nat) : Int), .int .u8 ((x3 : Nat) : Int)] 5)) wr.heap.size 5 1 (.slice (some ⟨wr.heap.size, 0, none⟩) 4 4) 4 (bytesV (Sha.high n 4)) := bytes_holds (by rw [hfour]; exact Holds_.new _ _ _) (Sha.high_length n 4) (by omega)
          have HS := Lib.hid hsucc
          have hlen : 4 * i + 4 ≤ 100 := by omega
          clear h0 hz1 h1 hz2 h2 h3 hfour hsucc hnl hnl' hok
          go_wp2_with (at_builtin; go_loud (refine wpList_append_bytes rfl _ _ rfl bv (4 * i) _ (Sha.outTo h i) rfl (hS.alloc _) wr.heap.size 4 _ (Sha.high n 4) rfl hM (by omega) ?d1 ?_))
          case d1 => simp; omega
          intro v' w' hS' hb'
          have hb2 : Below bv wr w' := ((Below.refl _ _).alloc hbq _).trans hb'
          have hH' : Bi w' w.heap.size (.slice (some ⟨gh, 0, none⟩) 8 ch) 8 h := Sl.below hH hb2 (fun k e => by cases e; omega)
          have hB' := hB.trans (hb2.mono hbs)
          have hbq' := Nat.le_trans hbq hb2.size
          go_wp2_with fail
          go_roundw
          case rel => exact ⟨i + 1, by omega, by go_num, by rw [HS.out, show 4 * (i + 1) = 4 * i + 4 by omega]; exact hS', hH', hB', hbq'⟩
          case measure => simp [intOf]; omega
        · obtain rfl : i = 8 := by omega
          have hback := run_string_of_Sl (P := Tryd.prog) 26 9 5 Tryd.underlying26 Tryd.underlying5 Tryd.underlying9 hS
          change _ = Result.ok (Value.string (str (Sha.outTo h 8))) _ at hback
          go_wp2_with fail
          go_ret
          exact ⟨by rw [HG.out]; rfl, hB⟩

set_option maxHeartbeats 1000000 in
theorem rsum_str (l : List UInt8) (hl : l.length ≤ 1048576) (w : World) :
    Calls Tryd.prog 11 #[.string (str l)] w fun e W' => e = .returned (.tuple #[.string (str (Sha.sumL l)), .int .i64 0]) ∧ Below w.heap.size w W' := by
  have hsz : (str l).size = l.length := rfl
  have hh := rhash_str l hl w
  have j1 : ¬ (1048576 : Int) < (l.length : Int) := by omega
  generalize str (Sha.sumL l) = h at *
  go_enter Tryd.func11, Tryd.ntmps11
  go_wp2_with fail
  refine hh.mono ?_
  rintro e w1 ⟨rfl, hb⟩
  go_wp2_with fail
  go_ret2
  exact ⟨rfl, hb⟩
end Go.Proofs.YtkgbecgdappjoaaDoor
