/- The document's Permute, by its walk. -/
import Derived.Test.YtblfodhbimgonaaDoorBe
import Derived.Test.YtblfodhbimgonaaDoorBf
namespace Go.Proofs.YtblfodhbimgonaaDoor
open Go.RowKit Go.Shelf
set_option linter.unusedVariables false
set_option linter.unusedSimpArgs false

/-! what it does, on bits -/
def Two (f : Nat → Nat) : Prop := ∀ i, i < 1600 → f i < 2
theorem two_bits (a : Nat → Nat) : Two (bitF a) := fun _ _ => Nat.mod_lt _ (by omega)
theorem two_th (f : Nat → Nat) : Two (thB f) := fun _ _ => Nat.mod_lt _ (by omega)
theorem two_chi (f : Nat → Nat) : Two (chiB f) := fun _ _ => Nat.mod_lt _ (by omega)
theorem two_rhoTo (f : Nat → Nat) (h : Two f) (t : Nat) : Two (rhoTo f t) := by
  induction t with
  | zero => exact h
  | succ t ih =>
    intro i hi
    have hx := Kec.xy_lt t
    show rhoZ _ _ _ _ _ i < 2
    unfold rhoZ
    split
    · exact h _ (by omega)
    · exact ih i hi
theorem two_pi (f : Nat → Nat) (h : Two f) : Two (piB f) := fun i hi => h _ (by omega)
def iotaTo (f : Nat → Nat) (i : Nat) : Nat → Nat → Nat
  | 0 => f
  | j + 1 => Kec.upd (iotaTo f i j) (2 ^ j - 1) ((iotaTo f i j (2 ^ j - 1) + rcO (j + 7 * i)) % 2)
theorem two_iota (f : Nat → Nat) (h : Two f) (i j : Nat) : Two (iotaTo f i j) := by
  induction j with
  | zero => exact h
  | succ j ih =>
    intro k hk
    show Kec.upd _ _ _ k < 2
    unfold Kec.upd
    split
    · exact Nat.mod_lt _ (by omega)
    · exact ih k hk
def rndB (f : Nat → Nat) (i : Nat) : Nat → Nat := iotaTo (chiB (piB (rhoB (thB f)))) i 7
def permTo (f : Nat → Nat) : Nat → Nat → Nat
  | 0 => f
  | i + 1 => rndB (permTo f i) i
theorem two_perm (f : Nat → Nat) (h : Two f) (i : Nat) : Two (permTo f i) := by
  induction i with
  | zero => exact h
  | succ i ih => exact two_iota _ (two_chi _) _ _
def hiTo (f : Nat → Nat) (i : Nat) : Nat → Nat
  | 0 => 0
  | k + 1 => 2 * hiTo f i k + f (64 * i + (63 - k))
theorem hiTo_lt (f : Nat → Nat) (h : Two f) (i k : Nat) (hi : i < 25) (hk : k ≤ 64) : hiTo f i k < 2 ^ k := by
  induction k with
  | zero => exact Nat.one_pos
  | succ k ih =>
    have h1 := ih (by omega)
    have h2 := h (64 * i + (63 - k)) (by omega)
    simp only [hiTo, Nat.pow_succ]
    omega
def outF (f : Nat → Nat) (i k j : Nat) : Nat := if j < i then hiTo f j 64 else if j = i then hiTo f i k else 0
theorem outF_step (f : Nat → Nat) (i k j : Nat) : Kec.upd (outF f i k) i (2 * outF f i k i + f (64 * i + (63 - k))) j = outF f i (k + 1) j := by
  have h0 : outF f i k i = hiTo f i k := by unfold outF; rw [if_neg (by omega), if_pos rfl]
  rw [h0]
  by_cases h : j = i
  · subst h
    rw [Kec.upd_same]
    unfold outF
    rw [if_neg (by omega), if_pos rfl]
    rfl
  · rw [Kec.upd_other _ _ _ _ h]
    unfold outF
    by_cases h2 : j < i
    · rw [if_pos h2, if_pos h2]
    · rw [if_neg h2, if_neg h, if_neg h2, if_neg h]
theorem outF_next (f : Nat → Nat) (i j : Nat) : outF f i 64 j = outF f (i + 1) 0 j := by
  unfold outF
  by_cases h : j < i
  · rw [if_pos h, if_pos (by omega)]
  · rw [if_neg h]
    by_cases h2 : j = i
    · subst h2; rw [if_pos rfl, if_pos (by omega)]
    · rw [if_neg h2, if_neg (by omega)]
      by_cases h3 : j = i + 1
      · rw [if_pos h3]; rfl
      · rw [if_neg h3]
theorem outF_zero (f : Nat → Nat) (j : Nat) : 0 = outF f 0 0 j := by
  unfold outF
  rw [if_neg (by omega)]
  split
  · rfl
  · rfl
def outB (f : Nat → Nat) (i : Nat) : Nat := hiTo f i 64
def permB (a : Nat → Nat) : Nat → Nat := outB (permTo (bitF a) 24)

theorem calls_abs' {P : Program} {f : FuncId} {args : Array Value} {w : World} {Q : Ending → World → Prop} (R : World → Prop) (h0 : R w) (h : ∀ W, R W → Calls P f args W Q) : Calls P f args w Q := h w h0
theorem lanes_put (f : Nat → Nat) (i v : Nat) (hi : i < 25) : (lanesV f).setIfInBounds i (.int .u64 ((v : Nat) : Int)) = lanesV (Kec.upd f i v) := by
  unfold lanesV
  rw [row_put _ _ _ _ _ hi]
  refine row_congr fun j _ => ?_
  unfold Kec.upd
  split <;> rfl
theorem lanes_congr {f g : Nat → Nat} (h : ∀ j, j < 25 → f j = g j) : lanesV f = lanesV g := by
  unfold lanesV
  exact row_congr fun j hj => by rw [h j hj]

set_option maxRecDepth 100000 in
set_option maxHeartbeats 4000000 in
theorem rpermute_any (a : Nat → Nat) (ha : Kec.Ok a) (w : World) :
    Calls Tryd.prog 12 #[.agg (lanesV a)] w fun e W' => e = .returned (.agg (lanesV (permB a))) ∧ Below w.heap.size w W' := by
  have hA0 := (Holds_.new w 24 (lanesV a)).alloc (.cells (lanesV (fun _ => 0)) 24)
  have hR0 := Holds_.new (w.alloc (.cells (lanesV a) 24)) 24 (lanesV (fun _ => 0))
  simp only [World.size_alloc] at hR0
  have hB0 : Below w.heap.size w ((w.alloc (.cells (lanesV a) 24)).alloc (.cells (lanesV (fun _ => 0)) 24)) := ((Below.refl _ _).alloc (Nat.le_refl _) _).alloc (by simp) _
  have hs0 : ((w.alloc (.cells (lanesV a) 24)).alloc (.cells (lanesV (fun _ => 0)) 24)).heap.size = w.heap.size + 2 := by simp
  go_enter Tryd.func12, Tryd.ntmps12
  go_wp2_with ((with_reducible show wpList _ _ _ (⟨some 11, _, _, _, _, _⟩ :: _) _ _); go_loud (refine wpList_loadRow rfl 24 _ rfl w.heap.size rfl 24 _ _ hA0 Tryd.underlying24 rfl (by rw [row_size]; exact info24) ?_))
  refine calls_abs' (fun W => Holds_ W (w.heap.size + 1) 24 (lanesV (fun _ => 0)) ∧ Below w.heap.size w W ∧ W.heap.size = w.heap.size + 2) ⟨hR0, hB0, hs0⟩ ?_
  clear hA0 hR0 hB0 hs0
  rintro w0 ⟨hR0, hB0, hs0⟩
  refine (bits_any a ha _).mono ?_
  rintro e w1 ⟨bv, rfl, hb, hB1⟩
  rw [hs0] at hB1 hb
  have hs1 := hB1.size
  go_wp2_with fail
  refine (rcs_any 168 (by decide) _).mono ?_
  rintro e w2 ⟨rv, rfl, hc, hb2⟩
  obtain ⟨gr, cr, rfl, _, _, _, _⟩ := Sl.form hc (by omega)
  have hB2 := hB1.trans (hb2.mono (by omega))
  have hb := hb.later hb2
  have hc := Bi.lower (b := w.heap.size + 2) hc (by omega)
  clear hB1 hb2 hs1
  go_wp2_with fail
  go_loopw [3, 5] (fun bv iv wr => ∃ i : Nat, i ≤ 24 ∧ iv = .int .i64 i ∧ Bi wr (w.heap.size + 2) bv 1600 (permTo (bitF a) i) ∧ Bi wr (w.heap.size + 2) (.slice (some ⟨gr, 0, none⟩) 168 cr) 168 rcO ∧ Below (w.heap.size + 2) w0 wr) (fun _ iv _ => 24 - (intOf iv).toNat)
  case atStart => exact ⟨0, by omega, rfl, hb, hc, hB2⟩
  case round =>
    clear hb hc hB2
    obtain ⟨i, hi, rfl, hb, hc, hB⟩ := hrel
    have hsz := hB.size
    rw [hs0] at hsz
    by_cases hlt : i < 24
    · have j1 : (i : Int) < 24 := by omega
      have hT := two_perm (bitF a) (two_bits a) i
      have hnext : permTo (bitF a) (i + 1) = iotaTo (chiB (piB (rhoB (thB (permTo (bitF a) i))))) i 7 := rfl
      generalize permTo (bitF a) i = f0 at *
      go_wp2_with fail
      refine (rtheta_any _ _ f0 hT _ hb).mono ?_
      rintro e w3 ⟨v3, rfl, h3, hb3⟩
      have hB3 := hB.trans (hb3.mono hsz)
      have hc := hc.later hb3
      have hs3 := Nat.le_trans hsz hb3.size
      clear hb hB hb3
      go_wp2_with fail
      refine (rrho_any _ _ _ _ h3).mono ?_
      rintro e w4 ⟨v4, rfl, h4, hb4⟩
      have hB4 := hB3.trans (hb4.mono hs3)
      have hc := hc.later hb4
      have hs4 := Nat.le_trans hs3 hb4.size
      clear h3 hB3 hb4
      go_wp2_with fail
      refine (pi_any _ _ _ _ h4).mono ?_
      rintro e w5 ⟨v5, rfl, h5, hb5⟩
      have hB5 := hB4.trans (hb5.mono hs4)
      have hc := hc.later hb5
      have hs5 := Nat.le_trans hs4 hb5.size
      clear h4 hB4 hb5
      have h2 := two_pi _ (two_rhoTo _ (two_th f0) 24)
      go_wp2_with fail
      refine (rchi_any _ _ _ h2 _ h5).mono ?_
      rintro e w6 ⟨v6, rfl, h6, hb6⟩
      have hB6 := hB5.trans (hb6.mono hs5)
      have hgr : gr < w5.heap.size := (Sl.lt hc gr rfl).2
      have hc := hc.later hb6
      have hs6 := Nat.le_trans hs5 hb6.size
      clear h5 hB5 hb6 h2
      obtain ⟨gb, cb, rfl, hgb, _, _, _⟩ := Sl.form h6 (by omega)
      have h6 : Bi w6 (w.heap.size + 2) (.slice (some ⟨gb, 0, none⟩) 1600 cb) 1600 (iotaTo (chiB (piB (rhoB (thB f0)))) i 0) := Bi.lower h6 hs5
      have hT2 := two_iota (chiB (piB (rhoB (thB f0)))) (two_chi _) i
      have hne : (Value.slice (some ⟨gr, 0, none⟩) 168 cr).ownBlock ≠ some gb := by simp [Value.ownBlock]; omega
      have hgb2 : w.heap.size + 2 ≤ gb := by omega
      have hit : ∀ j, iotaTo (chiB (piB (rhoB (thB f0)))) i (j + 1) = Kec.upd (iotaTo (chiB (piB (rhoB (thB f0)))) i j) (2 ^ j - 1) ((iotaTo (chiB (piB (rhoB (thB f0)))) i j (2 ^ j - 1) + rcO (j + 7 * i)) % 2) := fun _ => rfl
      generalize iotaTo (chiB (piB (rhoB (thB f0)))) i = F at *
      go_wp2_with fail
      go_loopw [6, 7] (fun zv jv wq => ∃ j : Nat, j ≤ 7 ∧ jv = .int .i64 j ∧ zv = .int .i64 ((2 ^ j : Nat) : Int) ∧ Bi wq (w.heap.size + 2) (.slice (some ⟨gb, 0, none⟩) 1600 cb) 1600 (F j) ∧ Bi wq (w.heap.size + 2) (.slice (some ⟨gr, 0, none⟩) 168 cr) 168 rcO ∧ Below (w.heap.size + 2) w0 wq) (fun _ jv _ => 7 - (intOf jv).toNat)
      case atStart => exact ⟨0, by omega, rfl, rfl, h6, hc, hB6⟩
      case round =>
        clear h6 hc hB6
        obtain ⟨j, hj, rfl, rfl, hb, hc, hB⟩ := hrel
        by_cases hlt2 : j < 7
        · have j2 : (j : Int) < 7 := by omega
          have hz64 : 2 ^ j ≤ 64 := Nat.le_trans (Nat.pow_le_pow_right (by omega) (show j ≤ 6 by omega)) (by decide)
          have hz1 : 1 ≤ 2 ^ j := Nat.one_le_two_pow
          have hit := hit j
          have hps : 2 ^ (j + 1) = 2 * 2 ^ j := by rw [Nat.pow_succ, Nat.mul_comm]
          generalize 2 ^ j = z at *
          obtain ⟨z1, hzz⟩ : ∃ z1, z - 1 = z1 := ⟨_, rfl⟩
          obtain ⟨i7, hi7⟩ : ∃ u, 7 * i = u := ⟨_, rfl⟩
          obtain ⟨p, hp⟩ : ∃ u, j + i7 = u := ⟨_, rfl⟩
          rw [hzz, hi7, hp] at hit
          have hz1l : z1 < 1600 := by omega
          have hpl : p < 168 := by omega
          have j4 : (z1 : Int) < 1600 := by omega
          have j5 : (p : Int) < 168 := by omega
          have k1 : IntKind.i64.wrap ((z : Int) - 1) = (z1 : Int) := (IntWalk.i64_in _ (by omega)).trans (by omega)
          have k2 : IntKind.i64.wrap (7 * (i : Int)) = (i7 : Int) := (IntWalk.i64_in _ (by omega)).trans (by omega)
          have k3 : IntKind.i64.wrap ((j : Int) + (i7 : Int)) = (p : Int) := (IntWalk.i64_in _ (by omega)).trans (by omega)
          have c1 := hb.cell z1 hz1l
          have c2 := hc.cell p hpl
          have f1 := hb.free z1 hz1l
          have l1 := hT2 j z1 hz1l
          have l2 := rcR_lt p 0 (by omega)
          change rcO p < 2 at l2
          have hbn := hb.put z1 ((F j z1 + rcO p) % 2)
          rw [← hit] at hbn
          have hcn : Bi (wr.setCell ⟨gb, z1, none⟩ (.int .i64 (((F j z1 + rcO p) % 2 : Nat) : Int))) (w.heap.size + 2) (.slice (some ⟨gr, 0, none⟩) 168 cr) 168 rcO := Sl.far hc hne _
          have hBn := hB.setCell (p := ⟨gb, z1, none⟩) hgb2 (.int .i64 (((F j z1 + rcO p) % 2 : Nat) : Int))
          generalize F j z1 = q at *
          generalize rcO p = q8 at *
          obtain ⟨s, hs⟩ : ∃ s, q + q8 = s := ⟨_, rfl⟩
          obtain ⟨t1, ht1⟩ : ∃ t1, s % 2 = t1 := ⟨_, rfl⟩
          rw [hs, ht1] at hbn hcn hBn
          have k4 : IntKind.i64.wrap ((q : Int) + (q8 : Int)) = (s : Int) := (IntWalk.i64_in _ (by omega)).trans (by omega)
          have k5 : (s : Int).tmod 2 = (t1 : Int) := by rw [← ht1]; rfl
          have b1 : (z : Int) ≤ 64 := by omega
          clear hb hc hB hit hzz hi7 hp hs ht1 l1 l2
          go_wp2_with fail
          refine wp_region_still_tail 18 (by kernel_rfl) (by kernel_rfl) ?_
          simp only [List.take_succ_cons, List.take_zero, List.drop_succ_cons, List.drop_zero]
          repeat still_step
          refine wpStill_nil ?_
          clear c2 k1 k2 k3 k4 k5
          go_wp2_with fail
          go_roundw
          case rel => exact ⟨j + 1, by omega, by go_num, by rw [hps]; go_num, hbn.drew, hcn.drew, hBn.drew⟩
          case measure => simp [intOf]; omega
        · obtain rfl : j = 7 := by omega
          rw [← hnext] at hb
          go_wp2_with fail
          go_roundw
          case rel => exact ⟨i + 1, by omega, by go_num, hb, hc, hB⟩
          case measure => simp [intOf]; omega
    · rw [show i = 24 by omega] at hb
      have hi24 : ¬ (i : Int) < 24 := by omega
      clear hlt hi
      generalize i = ie at *
      obtain ⟨gb, cb, rfl, _, _, _, _⟩ := Sl.form hb (by omega)
      have hT := two_perm (bitF a) (two_bits a) 24
      have hres : lanesV (permB a) = lanesV (outB (permTo (bitF a) 24)) := rfl
      generalize permTo (bitF a) 24 = f at *
      have hO0 : Holds_ (wr.alloc (.cells (lanesV (fun _ => 0)) 24)) wr.heap.size 24 (lanesV (outF f 0 0)) := by
        rw [← lanes_congr (fun j _ => outF_zero f j)]
        exact Holds_.new _ _ _
      have hb0 := Bi.alloc hb (.cells (lanesV (fun _ => 0)) 24)
      have hB0' := hB.alloc hsz (.cells (lanesV (fun _ => 0)) 24)
      have hgb : gb ≠ wr.heap.size := by have := (Sl.lt hb gb rfl).2; omega
      clear hb hB hc
      go_wp2_with fail
      refine wp_abs (fun W => Holds_ W wr.heap.size 24 (lanesV (outF f 0 0)) ∧ Bi W (w.heap.size + 2) (.slice (some ⟨gb, 0, none⟩) 1600 cb) 1600 f ∧ Below (w.heap.size + 2) w0 W) ⟨hO0, hb0, hB0'⟩ ?_
      clear hO0 hb0 hB0'
      rintro W ⟨hO, hb, hB⟩
      generalize wr.heap.size = gO at *
      go_loopw [9] (fun iv wq => ∃ i : Nat, i ≤ 25 ∧ iv = .int .i64 i ∧ Holds_ wq gO 24 (lanesV (outF f i 0)) ∧ Bi wq (w.heap.size + 2) (.slice (some ⟨gb, 0, none⟩) 1600 cb) 1600 f ∧ Below (w.heap.size + 2) w0 wq) (fun iv _ => 25 - (intOf iv).toNat)
      case atStart => exact ⟨0, by omega, rfl, hO, hb, hB⟩
      case round =>
        clear hO hb hB
        obtain ⟨i, hi, rfl, hO, hb, hB⟩ := hrel
        by_cases hlt : i < 25
        · have j1 : (i : Int) < 25 := by omega
          go_wp2_with fail
          go_loopw [10] (fun zv wq => ∃ k : Nat, k ≤ 64 ∧ zv = .int .i64 (63 - (k : Int)) ∧ Holds_ wq gO 24 (lanesV (outF f i k)) ∧ Bi wq (w.heap.size + 2) (.slice (some ⟨gb, 0, none⟩) 1600 cb) 1600 f ∧ Below (w.heap.size + 2) w0 wq) (fun zv _ => (intOf zv + 1).toNat)
          case atStart => exact ⟨0, by omega, rfl, hO, hb, hB⟩
          case round =>
            clear hO hb hB
            obtain ⟨k, hk, rfl, hO, hb, hB⟩ := hrel
            by_cases hlt2 : k < 64
            · obtain ⟨z, hz⟩ : ∃ z, 63 - k = z := ⟨_, rfl⟩
              have hzi : (63 : Int) - (k : Int) = (z : Int) := by omega
              rw [hzi]
              have hstep := fun j => outF_step f i k j
              rw [hz] at hstep
              obtain ⟨m, hm⟩ : ∃ u, 64 * i = u := ⟨_, rfl⟩
              obtain ⟨p, hp⟩ : ∃ u, m + z = u := ⟨_, rfl⟩
              rw [hm, hp] at hstep
              have hpl : p < 1600 := by omega
              have j4 : (p : Int) < 1600 := by omega
              have k1 : IntKind.i64.wrap (64 * (i : Int)) = (m : Int) := (IntWalk.i64_in _ (by omega)).trans (by omega)
              have k2 : IntKind.i64.wrap ((m : Int) + (z : Int)) = (p : Int) := (IntWalk.i64_in _ (by omega)).trans (by omega)
              have c1 : wr.cell? ⟨gO, i, none⟩ = some (.int .u64 (outF f i k i : Nat)) := (hO.cell _).trans (row_get _ _ _ _ hlt)
              have c2 := hb.cell p hpl
              have f1 := hO.free i
              have hx : outF f i k i < 2 ^ 63 := by
                unfold outF
                rw [if_neg (by omega), if_pos rfl]
                exact Nat.lt_of_lt_of_le (hiTo_lt f hT i k hlt (by omega)) (Nat.pow_le_pow_right (by omega) (by omega))
              have hq := hT p hpl
              have hOn := hO.put i (.int .u64 ((2 * outF f i k i + f p : Nat) : Int))
              rw [lanes_put _ _ _ hlt, lanes_congr (fun j _ => hstep j)] at hOn
              have hbn : Bi (wr.setCell ⟨gO, i, none⟩ (.int .u64 ((2 * outF f i k i + f p : Nat) : Int))) (w.heap.size + 2) (.slice (some ⟨gb, 0, none⟩) 1600 cb) 1600 f := Sl.far hb (by simp [Value.ownBlock]; exact hgb) _
              have hBn := hB.setCell (p := ⟨gO, i, none⟩) hsz (.int .u64 ((2 * outF f i k i + f p : Nat) : Int))
              generalize outF f i k i = x at *
              generalize f p = q at *
              obtain ⟨x2, hx2⟩ : ∃ u, 2 * x = u := ⟨_, rfl⟩
              obtain ⟨y, hy⟩ : ∃ u, x2 + q = u := ⟨_, rfl⟩
              rw [hx2, hy] at hOn hbn hBn
              have k3 : IntKind.u64.wrap (2 * (x : Int)) = (x2 : Int) := by rw [IntKind.wrap_u64]; omega
              have k4 : IntKind.u64.wrap (q : Int) = (q : Int) := by rw [IntKind.wrap_u64]; omega
              have k5 : IntKind.u64.wrap ((x2 : Int) + (q : Int)) = (y : Int) := by rw [IntKind.wrap_u64]; omega
              have hz0 : (0 : Int) ≤ (z : Int) := by omega
              clear hO hb hB hstep hm hp hx2 hy
              go_wp2_with fail
              refine wp_region_still_tail 15 (by kernel_rfl) (by kernel_rfl) ?_
              simp only [List.take_succ_cons, List.take_zero, List.drop_succ_cons, List.drop_zero]
              repeat still_step
              refine wpStill_nil ?_
              clear c2 k1 k2 k3 k4 k5
              have hz63 : (z : Int) ≤ 63 := by omega
              go_wp2_with fail
              go_roundw
              case rel => exact ⟨k + 1, by omega, by rw [← hzi]; go_num, hOn.drew, hbn.drew, hBn.drew⟩
              case measure => simp [intOf] <;> omega
            · obtain rfl : k = 64 := by omega
              rw [lanes_congr (fun j _ => outF_next f i j)] at hO
              go_wp2_with fail
              go_roundw
              case rel => exact ⟨i + 1, by omega, by go_num, hO, hb, hB⟩
              case measure => simp [intOf]; omega
        · obtain rfl : i = 25 := by omega
          have hR := hR0.below hB (by omega)
          have hres2 : lanesV (outF f 25 0) = lanesV (outB f) := lanes_congr (fun j hj => by unfold outF; rw [if_pos hj]; rfl)
          rw [hres2, ← hres] at hO
          have hBw := hB0.trans (hB.mono (by omega))
          go_wp2_with (first
            | ((with_reducible show wpList _ _ _ (⟨some 70, _, _, _, _, _⟩ :: _) _ _); go_loud (refine wpList_loadRow rfl 24 _ rfl gO rfl 24 _ _ hO Tryd.underlying24 rfl (by rw [row_size]; exact info24) ?_))
            | ((with_reducible show wpList _ _ _ (⟨none, _, _, _, _, _⟩ :: _) _ _); go_loud (refine wpList_storeRow rfl 24 _ _ rfl (w.heap.size + 1) _ rfl rfl 24 _ hR (by rw [row_size]; exact info24) (by simp [row_size]) (row_one _ _ _) ?_)))
          have hR2 := hR.putRow (lanesV (permB a))
          exact bodyPost_ret (results_cell_row rfl _ _ (w.heap.size + 1) 24 _ (0, 0) _ rfl hR2 Tryd.underlying24 rfl (by rw [row_size]; exact info24)) rfl ⟨rfl, below_putRow hBw (by omega) _⟩
end Go.Proofs.YtblfodhbimgonaaDoor
