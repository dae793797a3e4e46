/- mix, by its walk. -/
import Derived.Test.YtkgbecgdappjoaaDoorMa
import Derived.StillTailTactics
import Derived.Laws.IdiomCopy
namespace Go.Proofs.YtkgbecgdappjoaaDoor
open Go.RowKit Go.Shelf
set_option linter.unusedVariables false
set_option linter.unusedSimpArgs false

abbrev octV (f : Nat → Nat) : Array Value := row_ .u32 8 (fun i => (f i : Int))
abbrev wordsV (f : Nat → Nat) : Array Value := row_ .u32 64 (fun i => (f i : Int))
theorem info44 : (Tryd.prog.info? 44).map (·.size) = some 1 := by kernel_rfl
theorem info45 : (Tryd.prog.info? 45).map (·.size) = some 8 := by kernel_rfl
theorem info54 : (Tryd.prog.info? 54).map (·.size) = some 64 := by kernel_rfl
/-- The tables lie where the program's variables lie. -/
abbrev startV : Array Value := octV Sha.hF
abbrev constsV : Array Value := wordsV Sha.cF
def Table (w : World) : Prop := Reads_ w 0 startV ∧ Reads_ w 1 constsV
theorem Table.pos {w : World} (h : Table w) : 1 < w.heap.size := block_lt_of_cell (h.2 0 _ (row_get _ _ _ 0 (by omega)))
theorem Table.below {w W : World} {B : Nat} (h : Table w) (hb : Below B w W) (hB : 1 < B) : Table W := ⟨h.1.below hb (by omega), h.2.below hb hB⟩
theorem Holds_.putN {w : World} {g : Nat} {t : TypeId} {n : Nat} {f : Nat → Nat} (h : Holds_ w g t (row_ .u32 n (fun i => (f i : Int)))) (i v : Nat) (hi : i < n) :
    Holds_ (w.setCell ⟨g, i, none⟩ (.int .u32 (v : Int))) g t (row_ .u32 n (fun j => ((Sha.upd f i v j : Nat) : Int))) := by
  have h1 := h.put i (.int .u32 (v : Int))
  rw [row_put _ _ _ _ _ hi] at h1
  rw [row_congr (f' := fun j => if j = i then (v : Int) else (f j : Int)) (fun j _ => by simp only [Sha.upd]; split <;> rfl)]
  exact h1

theorem add_wrap (A B : Nat) : ((A : Int) + (B : Int)) % 4294967296 = ((Sha.add A B : Nat) : Int) := by unfold Sha.add; omega
theorem Holds_.copied {W : World} {g : Nat} {v : Nat → Nat} (h : Holds_ W g 45 (octV v)) :
    Holds_ (W.setCells g 1 [.int .u32 (v 0 : Nat), .int .u32 (v 1 : Nat), .int .u32 (v 2 : Nat), .int .u32 (v 3 : Nat), .int .u32 (v 4 : Nat), .int .u32 (v 5 : Nat), .int .u32 (v 6 : Nat)]) g 45 (octV (Sha.shift v)) := by
  have h1 := ((((((h.putN 1 (v 0) (by omega)).putN 2 (v 1) (by omega)).putN 3 (v 2) (by omega)).putN 4 (v 3) (by omega)).putN 5 (v 4) (by omega)).putN 6 (v 5) (by omega)).putN 7 (v 6) (by omega)
  have e : octV (Sha.upd (Sha.upd (Sha.upd (Sha.upd (Sha.upd (Sha.upd (Sha.upd v 1 (v 0)) 2 (v 1)) 3 (v 2)) 4 (v 3)) 5 (v 4)) 6 (v 5)) 7 (v 6)) = octV (Sha.shift v) := by
    refine row_congr fun i hi => ?_
    match i, hi with
    | 0, _ => rfl
    | 1, _ => rfl
    | 2, _ => rfl
    | 3, _ => rfl
    | 4, _ => rfl
    | 5, _ => rfl
    | 6, _ => rfl
    | 7, _ => rfl
  rw [← e]
  exact h1
theorem setCells_far (g g' : Nat) (hg : g ≠ g') (t : TypeId) (cs : Array Value) : ∀ (vs : List Value) (o : Nat) (W : World), Holds_ W g t cs → Holds_ (W.setCells g' o vs) g t cs
  | [], _, _, h => h
  | v :: r, o, W, h => setCells_far g g' hg t cs r (o + 1) _ (h.far (p := ⟨g', o, none⟩) hg v)
theorem setCells_below {B : Nat} {a : World} (b : Nat) (hb : B ≤ b) : ∀ (vs : List Value) (o : Nat) (w : World), Below B a w → Below B a (w.setCells b o vs)
  | [], _, _, h => h
  | v :: r, o, w, h => setCells_below b hb r (o + 1) _ (h.setCell (p := ⟨b, o, none⟩) hb v)
theorem wpList_copied {P : Program} {ops : Array Oper} {o : Oper} {a : Act} {w : World} {Q : Exit → Act → World → Prop} (hgd : o.guard = none) (d s : Operand) (t t' : TypeId)
    (ho : o.op = .call { callee := .builtin .copy, args := #[d, s], argTypes := #[t, t'] }) (v u : Value) (hd : a.eval d = v) (hs : a.eval s = u) {v' : Value} {w' : World}
    (hr : (Builtin.copy_ #[t, t'] o.type #[v, u]).run P w = .ok v' w') (h : wpList P ops Q [] (a.put o.dst v') w') : wpList P ops Q [o] a w :=
  wpList_plain hgd fun K hK => by
    unfold Oper.wp execOp
    simp only [ho, resolve, invoke, builtin, Sem.run_bind, Sem.run_pure, Result.andThen_ok, List.map_toArray, List.map_cons, List.map_nil, hd, hs, hr]
    exact hK _ _ h
section
variable {o : Oper} {a : Act} {W : World} {G : Value → World → Prop}
theorem does_from1 (x : Operand) (g : Nat) (ho : o.op = .slice 45 x (some (.const (.int .i64 1))) none none) (ex : a.eval x = .pointer (some ⟨g, 0, none⟩)) (hG : G (.slice (some ⟨g, 1, none⟩) 7 7) W) : DoesV Tryd.prog o a W G := by
  refine does_run _ ?_ hG
  simp only [execOp, ho, ex, Option.map_some, Option.map_none]
  simp [go_sem, Act.eval]
theorem does_to7 (x : Operand) (g : Nat) (ho : o.op = .slice 45 x none (some (.const (.int .i64 7))) none) (ex : a.eval x = .pointer (some ⟨g, 0, none⟩)) (hG : G (.slice (some ⟨g, 0, none⟩) 7 8) W) : DoesV Tryd.prog o a W G := by
  refine does_run _ ?_ hG
  simp only [execOp, ho, ex, Option.map_some, Option.map_none]
  simp [go_sem, Act.eval]
end
theorem seven_at {W : World} {g : Nat} {v : Nat → Nat} (h : Holds_ W g 45 (octV v)) : ∀ j u, ([.int .u32 (v 0 : Nat), .int .u32 (v 1 : Nat), .int .u32 (v 2 : Nat), .int .u32 (v 3 : Nat), .int .u32 (v 4 : Nat), .int .u32 (v 5 : Nat), .int .u32 (v 6 : Nat)] : List Value)[j]? = some u → W.cell? ((⟨g, 0, none⟩ : Addr).add j) = some u := by
  intro j u hu
  have hj : j < 7 := (List.getElem?_eq_some_iff.1 hu).1
  rw [show (⟨g, 0, none⟩ : Addr).add j = ⟨g, j, none⟩ from by unfold Addr.add; split <;> simp_all, h.cell, row_get _ _ _ _ (by omega), ← hu]
  match j, hj with
  | 0, _ => rfl
  | 1, _ => rfl
  | 2, _ => rfl
  | 3, _ => rfl
  | 4, _ => rfl
  | 5, _ => rfl
  | 6, _ => rfl
theorem copied_run {W : World} {g : Nat} {v : Nat → Nat} (h : Holds_ W g 45 (octV v)) (ty : TypeId) :
    (Builtin.copy_ #[58, 58] ty #[.slice (some ⟨g, 1, none⟩) 7 7, .slice (some ⟨g, 0, none⟩) 7 8]).run Tryd.prog W = .ok (.int .i64 7) (W.setCells g 1 [.int .u32 (v 0 : Nat), .int .u32 (v 1 : Nat), .int .u32 (v 2 : Nat), .int .u32 (v 3 : Nat), .int .u32 (v 4 : Nat), .int .u32 (v 5 : Nat), .int .u32 (v 6 : Nat)]) := by
  refine run_copy_cells W 58 58 ty 44 g 1 7 7 ⟨g, 0, none⟩ 7 8 _ Tryd.underlying58 info44 rfl (seven_at h) ?_ ?_ ?_
  · intro j hj
    have hj : j < 7 := hj
    rw [h.cell, row_get _ _ _ _ (by omega)]
    rfl
  · intro j hj
    exact h.free _
  · intro u hu
    simp only [List.mem_cons, List.not_mem_nil, or_false] at hu
    rcases hu with rfl | rfl | rfl | rfl | rfl | rfl | rfl <;> rfl
theorem st_nil : ∀ p ∈ ([] : List (Value → World → Prop)), Stable_ p := fun _ h => by cases h
theorem st_cons {p : Value → World → Prop} {fs : List (Value → World → Prop)} (h : Stable_ p) (hs : ∀ q ∈ fs, Stable_ q) : ∀ q ∈ p :: fs, Stable_ q := by
  intro q hq
  rcases List.mem_cons.1 hq with rfl | hq
  · exact h
  · exact hs q hq

set_option maxRecDepth 100000 in
set_option maxHeartbeats 4000000 in
theorem mix_any (h : Nat → Nat) (hh : Sha.Ok 8 h) (b : List UInt8) (hb : b.length = 64) (g off cap : Nat) (hcap : 64 ≤ cap) (w : World) (hg : g < w.heap.size) (hT : Table w) (hc : ∀ i, i < 64 → w.cell? ⟨g, off + i, none⟩ = some (.int .u8 ((b.getD i 0).toNat : Int))) :
    Calls Tryd.prog 19 #[.agg (octV h), .slice (some ⟨g, off, none⟩) 64 cap] w fun e W' => e = .returned (.agg (octV (Sha.mix h b))) ∧ Below w.heap.size w W' := by
  have hT0 := hT.pos
  go_enter Tryd.func19, Tryd.ntmps19
  go_wp2_with fail
  refine wp_abs (fun W => Holds_ W w.heap.size 45 (octV h) ∧ Holds_ W (w.heap.size + 1) 45 (octV (fun _ => 0)) ∧ Holds_ W (w.heap.size + 1 + 1) 54 (wordsV (Sha.wTo b 0)) ∧ Below w.heap.size w W) ?f0 ?g0
  case f0 =>
    have h0 := Holds_.new w 45 (octV h)
    have h1 := Holds_.new (w.alloc (.cells (octV h) 45)) 45 (octV (fun _ => 0))
    have h2 := Holds_.new ((w.alloc (.cells (octV h) 45)).alloc (.cells (octV (fun _ => 0)) 45)) 54 (wordsV (fun _ => 0))
    simp only [World.size_alloc] at h1 h2
    exact ⟨(h0.alloc _).alloc _, h1.alloc _, h2, (((Below.refl _ _).alloc (Nat.le_refl _) _).alloc (by simp) _).alloc (by simp; omega) _⟩
  rintro W1 ⟨hA, hR, hD, hB⟩
  have hl1 := hD.lt
  generalize hw1 : w.heap.size + 1 = B1 at *
  generalize hw2 : B1 + 1 = B2 at *
  go_loopw [17] (fun t wr => ∃ k : Nat, k ≤ 64 ∧ t = .int .i64 k ∧ Holds_ wr w.heap.size 45 (octV h) ∧ Holds_ wr B1 45 (octV (fun _ => 0)) ∧ Holds_ wr B2 54 (wordsV (Sha.wTo b k)) ∧ Below w.heap.size w wr)
    (fun t _ => 64 - (intOf t).toNat)
  case atStart => exact ⟨0, by omega, rfl, hA, hR, hD, hB⟩
  case round =>
    obtain ⟨k, hk, rfl, hA, hR, hD, hB⟩ := hrel
    by_cases hlt : k < 64
    · by_cases hfirst : k < 16
      · obtain ⟨q, hq⟩ : ∃ q, 4 * k = q := ⟨_, rfl⟩
        have i1 : IntKind.i64.wrap (4 * (k : Int)) = (q : Int) := (IntWalk.i64_in _ (by omega)).trans (by omega)
        obtain ⟨q4, hq4⟩ : ∃ q4, q + 4 = q4 := ⟨_, rfl⟩
        have i2 : IntKind.i64.wrap ((q : Int) + 4) = (q4 : Int) := (IntWalk.i64_in _ (by omega)).trans (by omega)
        have hlt64 : (k : Int) < 64 := by omega
        have hlt16 : (k : Int) < 16 := by omega
        have e1 : q ≤ q4 := by omega
        have e2 : q4 ≤ cap := by omega
        have e3 : q4 - q = 4 := by omega
        have e4 : ¬ cap = q := by omega
        have hup : Sha.wTo b (k + 1) = Sha.upd (Sha.wTo b k) k (Sha.num ((b.drop q).take 4)) := by
          show Sha.upd (Sha.wTo b k) k (Sha.wAt b (Sha.wTo b k) k) = _
          unfold Sha.wAt
          rw [if_pos hfirst, hq]
        have HS := Lib.hid hup
        have hl4 : ((b.drop q).take 4).length = 4 := by rw [List.length_take, List.length_drop, hb]; omega
        have hcl : ∀ i, i < 4 → wr.cell? ⟨g, off + q + i, none⟩ = some (.int .u8 ((((b.drop q).take 4).getD i 0).toNat : Int)) := by
          intro i hi
          have h1 := (hB.cell (p := ⟨g, off + (q + i), none⟩) hg).trans (hc (q + i) (by omega))
          rw [show off + q + i = off + (q + i) from by omega, h1]
          have : ((b.drop q).take 4).getD i 0 = b.getD (q + i) 0 := by
            rw [List.getD_eq_getElem?_getD, List.getD_eq_getElem?_getD, List.getElem?_take_of_lt hi, List.getElem?_drop]
          rw [this]
        have HN := fun cap => number_any g (off + q) cap ((b.drop q).take 4) hl4 wr hcl
        have q5 : wr.cell? ⟨B2, k, none⟩ = some (.int .u32 (Sha.wTo b k k : Nat)) := (hD.cell _).trans (row_get _ _ _ _ (by omega))
        have q6 : wr.frozen? ⟨B2, k, none⟩ = false := hD.free _
        clear hup hcl hl4 hq hq4
        generalize Sha.wTo b k = f at *
        generalize Sha.num ((b.drop q).take 4) = nn at *
        go_wp2_with fail
        refine (HN _).mono ?_
        rintro e w' ⟨rfl, rfl⟩
        go_wp2_with fail
        refine ⟨⟨k + 1, by omega, by go_num, hA.far (p := ⟨B2, k, none⟩) (by simp; omega) _, hR.far (p := ⟨B2, k, none⟩) (by simp; omega) _, ?_, hB.setCell (p := ⟨B2, k, none⟩) (by simp; omega) _⟩, by simp [intOf]; omega⟩
        rw [HS.out]
        exact hD.putN k _ (by omega)
      · obtain ⟨p15, h15⟩ : ∃ p, k - 15 = p := ⟨_, rfl⟩
        obtain ⟨p2, h2⟩ : ∃ p, k - 2 = p := ⟨_, rfl⟩
        obtain ⟨p16, h16⟩ : ∃ p, k - 16 = p := ⟨_, rfl⟩
        obtain ⟨p7, h7⟩ : ∃ p, k - 7 = p := ⟨_, rfl⟩
        have hup : Sha.wTo b (k + 1) = Sha.upd (Sha.wTo b k) k (Sha.wAt b (Sha.wTo b k) k) := rfl
        have hat : Sha.wAt b (Sha.wTo b k) k = Sha.add (Sha.add (Sha.add (Sha.wTo b k p16) (Sha.wTo b k p7)) (Sha.s0 (Sha.wTo b k p15))) (Sha.s1 (Sha.wTo b k p2)) := by
          unfold Sha.wAt
          rw [if_neg hfirst, h16, h7, h15, h2]
        rw [hat] at hup
        have HS := Lib.hid hup
        clear hup hat
        have hx := Sha.wTo_lt b k p15
        have hy := Sha.wTo_lt b k p2
        generalize Sha.wTo b k = f at *
        have i1 : IntKind.i64.wrap ((k : Int) - 15) = (p15 : Int) := (IntWalk.i64_in _ (by omega)).trans (by omega)
        have i2 : IntKind.i64.wrap ((k : Int) - 2) = (p2 : Int) := (IntWalk.i64_in _ (by omega)).trans (by omega)
        have hlt64 : (k : Int) < 64 := by omega
        have hlt16 : ¬ (k : Int) < 16 := by omega
        have q1 : wr.cell? ⟨B2, p15, none⟩ = some (.int .u32 (f p15 : Nat)) := (hD.cell _).trans (row_get _ _ _ _ (by omega))
        have q2 : wr.cell? ⟨B2, p2, none⟩ = some (.int .u32 (f p2 : Nat)) := (hD.cell _).trans (row_get _ _ _ _ (by omega))
        have j1 : (p15 : Int) < 64 := by omega
        have j2 : (p2 : Int) < 64 := by omega
        go_wp2_with fail
        go_still (by kernel_rfl)
        change Exit.then _ _ _ _ wr.drew
        go_wp2_with fail
        generalize f p15 = x at *
        generalize f p2 = y at *
        clear q1 q2 i1 i2 j1 j2
        let C : World → Prop := fun W => (Holds_ W w.heap.size 45 (octV h) ∧ Holds_ W B1 45 (octV fun _ => 0)) ∧ Holds_ W B2 54 (wordsV f) ∧ Below w.heap.size w W
        have hC0 : C wr.drew.drew := ⟨⟨hA, hR⟩, hD, hB.drew.drew⟩
        have hCk : ∀ W W', Keep W W' → C W → C W' := fun W W' hk ⟨⟨a1, a2⟩, a3, a4⟩ => ⟨⟨a1.below hk a1.lt, a2.below hk a2.lt⟩, a3.below hk a3.lt, a4.trans (hk.mono a4.size)⟩
        have hCc : ∀ i, i < 64 → ∀ W, C W → W.cell? ⟨B2, i, none⟩ = some (.int .u32 ((f i : Nat) : Int)) := fun i hi W hW => (hW.2.1.cell _).trans (row_get _ _ _ _ hi)
        refine wp_region_inv_tail 25 _ C Keep (fsP [pv (.int .i64 ((k : Nat) : Int)), pv (.int .i64 ((k : Nat) : Int)), pv (.int .i64 ((p16 : Nat) : Int)), pv (.pointer (some ⟨B2, p16, none⟩)), pv (.int .u32 ((f p16 : Nat) : Int)), pv (.int .i64 ((k : Nat) : Int)), pv (.int .i64 ((p7 : Nat) : Int)), pv (.pointer (some ⟨B2, p7, none⟩)), pv (.int .u32 ((f p7 : Nat) : Int)), pv (.int .u32 ((Sha.add (f p16) (f p7) : Nat) : Int)), pv (.int .u32 ((x : Nat) : Int)), psl [7, 18], pv (.int .u32 ((Sha.turnL x [7, 18] : Nat) : Int)), pv (.int .u32 ((x : Nat) : Int)), pv (.int .u32 ((x / 2 ^ 3 : Nat) : Int)), pv (.int .u32 ((Sha.s0 x : Nat) : Int)), pv (.int .u32 ((Sha.add (Sha.add (f p16) (f p7)) (Sha.s0 x) : Nat) : Int)), pv (.int .u32 ((y : Nat) : Int)), psl [17, 19], pv (.int .u32 ((Sha.turnL y [17, 19] : Nat) : Int)), pv (.int .u32 ((y : Nat) : Int)), pv (.int .u32 ((y / 2 ^ 10 : Nat) : Int)), pv (.int .u32 ((Sha.s1 y : Nat) : Int)), pv (.int .u32 ((Sha.add (Sha.add (Sha.add (f p16) (f p7)) (Sha.s0 x)) (Sha.s1 y) : Nat) : Int)), pv (.pointer (some ⟨B2, k, none⟩))]) (by kernel_rfl) rfl rfl (by kernel_rfl) (by kernel_rfl) (by kernel_rfl) hC0 (fsP_st _ ?st) ?hop ?hfin
        case st => repeat (first | exact st_nil | refine st_cons (st_pv _) ?_ | refine st_cons (st_psl _) ?_)
        case hop =>
          intro a W hCW hold
          refine ⟨?_, ?_, ?_, ?_, ?_, ?_, ?_, ?_, ?_, ?_, ?_, ?_, ?_, ?_, ?_, ?_, ?_, ?_, ?_, ?_, ?_, ?_, ?_, ?_, ?_, trivial⟩
          · intro hp
            have e6 : a.eval (.tmp 6) = .int .i64 ((k : Nat) : Int) := (hold 6 (by decide)).trans rfl
            exact does_move _ _ rfl e6 ⟨hCW, Below.refl _ _, rfl⟩
          · intro hp
            have e6 : a.eval (.tmp 6) = .int .i64 ((k : Nat) : Int) := (hold 6 (by decide)).trans rfl
            exact does_move _ _ rfl e6 ⟨hCW, Below.refl _ _, rfl⟩
          · intro hp
            have e41 := preds_get hp 1 _ rfl rfl
            change a.eval (.tmp 41) = .int .i64 ((k : Nat) : Int) at e41
            exact does_sub _ _ 16 p16 (by decide) (by omega) h16 (by omega) rfl e41 ⟨hCW, Below.refl _ _, rfl⟩
          · intro hp
            have e5 : a.eval (.tmp 5) = .pointer (some ⟨B2, 0, none⟩) := (hold 5 (by decide)).trans rfl
            have e42 := preds_get hp 2 _ rfl rfl
            change a.eval (.tmp 42) = .int .i64 ((p16 : Nat) : Int) at e42
            exact does_at64 _ _ _ _ (by omega) rfl e5 e42 ⟨hCW, Below.refl _ _, rfl⟩
          · intro hp
            have e43 := preds_get hp 3 _ rfl rfl
            change a.eval (.tmp 43) = .pointer (some ⟨B2, p16, none⟩) at e43
            exact does_load _ _ _ _ rfl e43 (hCc p16 (by omega) W hCW) ⟨hCW, Below.refl _ _, rfl⟩
          · intro hp
            have e6 : a.eval (.tmp 6) = .int .i64 ((k : Nat) : Int) := (hold 6 (by decide)).trans rfl
            exact does_move _ _ rfl e6 ⟨hCW, Below.refl _ _, rfl⟩
          · intro hp
            have e45 := preds_get hp 5 _ rfl rfl
            change a.eval (.tmp 45) = .int .i64 ((k : Nat) : Int) at e45
            exact does_sub _ _ 7 p7 (by decide) (by omega) h7 (by omega) rfl e45 ⟨hCW, Below.refl _ _, rfl⟩
          · intro hp
            have e5 : a.eval (.tmp 5) = .pointer (some ⟨B2, 0, none⟩) := (hold 5 (by decide)).trans rfl
            have e46 := preds_get hp 6 _ rfl rfl
            change a.eval (.tmp 46) = .int .i64 ((p7 : Nat) : Int) at e46
            exact does_at64 _ _ _ _ (by omega) rfl e5 e46 ⟨hCW, Below.refl _ _, rfl⟩
          · intro hp
            have e47 := preds_get hp 7 _ rfl rfl
            change a.eval (.tmp 47) = .pointer (some ⟨B2, p7, none⟩) at e47
            exact does_load _ _ _ _ rfl e47 (hCc p7 (by omega) W hCW) ⟨hCW, Below.refl _ _, rfl⟩
          · intro hp
            have e44 := preds_get hp 4 _ rfl rfl
            change a.eval (.tmp 44) = .int .u32 ((f p16 : Nat) : Int) at e44
            have e48 := preds_get hp 8 _ rfl rfl
            change a.eval (.tmp 48) = .int .u32 ((f p7 : Nat) : Int) at e48
            exact does_add _ _ _ _ rfl e44 e48 ⟨hCW, Below.refl _ _, rfl⟩
          · intro hp
            have e7 : a.eval (.tmp 7) = .int .u32 ((x : Nat) : Int) := (hold 7 (by decide)).trans rfl
            exact does_move _ _ rfl e7 ⟨hCW, Below.refl _ _, rfl⟩
          · intro hp
            exact does_two 7 18 rfl (fun v' W' hk hp' => ⟨hCk W W' hk hCW, hk, hp'⟩)
          · intro hp
            have e50 := preds_get hp 10 _ rfl rfl
            change a.eval (.tmp 50) = .int .u32 ((x : Nat) : Int) at e50
            have e51 := preds_get hp 11 _ rfl rfl
            change psl [7, 18] (a.eval (.tmp 51)) W at e51
            exact does_turned _ _ _ _ hx (by decide) (by decide) rfl e50 e51 ⟨hCW, Below.refl _ _, rfl⟩
          · intro hp
            have e7 : a.eval (.tmp 7) = .int .u32 ((x : Nat) : Int) := (hold 7 (by decide)).trans rfl
            exact does_move _ _ rfl e7 ⟨hCW, Below.refl _ _, rfl⟩
          · intro hp
            have e53 := preds_get hp 13 _ rfl rfl
            change a.eval (.tmp 53) = .int .u32 ((x : Nat) : Int) at e53
            exact does_shr _ _ 3 (by decide) rfl e53 ⟨hCW, Below.refl _ _, rfl⟩
          · intro hp
            have e52 := preds_get hp 12 _ rfl rfl
            change a.eval (.tmp 52) = .int .u32 ((Sha.turnL x [7, 18] : Nat) : Int) at e52
            have e54 := preds_get hp 14 _ rfl rfl
            change a.eval (.tmp 54) = .int .u32 ((x / 2 ^ 3 : Nat) : Int) at e54
            exact does_xor _ _ _ _ (Sha.turnL_lt x hx _) (Nat.lt_of_le_of_lt (Nat.div_le_self _ _) hx) rfl e52 e54 ⟨hCW, Below.refl _ _, rfl⟩
          · intro hp
            have e49 := preds_get hp 9 _ rfl rfl
            change a.eval (.tmp 49) = .int .u32 ((Sha.add (f p16) (f p7) : Nat) : Int) at e49
            have e55 := preds_get hp 15 _ rfl rfl
            change a.eval (.tmp 55) = .int .u32 ((Sha.s0 x : Nat) : Int) at e55
            exact does_add _ _ _ _ rfl e49 e55 ⟨hCW, Below.refl _ _, rfl⟩
          · intro hp
            have e8 : a.eval (.tmp 8) = .int .u32 ((y : Nat) : Int) := (hold 8 (by decide)).trans rfl
            exact does_move _ _ rfl e8 ⟨hCW, Below.refl _ _, rfl⟩
          · intro hp
            exact does_two 17 19 rfl (fun v' W' hk hp' => ⟨hCk W W' hk hCW, hk, hp'⟩)
          · intro hp
            have e57 := preds_get hp 17 _ rfl rfl
            change a.eval (.tmp 57) = .int .u32 ((y : Nat) : Int) at e57
            have e58 := preds_get hp 18 _ rfl rfl
            change psl [17, 19] (a.eval (.tmp 58)) W at e58
            exact does_turned _ _ _ _ hy (by decide) (by decide) rfl e57 e58 ⟨hCW, Below.refl _ _, rfl⟩
          · intro hp
            have e8 : a.eval (.tmp 8) = .int .u32 ((y : Nat) : Int) := (hold 8 (by decide)).trans rfl
            exact does_move _ _ rfl e8 ⟨hCW, Below.refl _ _, rfl⟩
          · intro hp
            have e60 := preds_get hp 20 _ rfl rfl
            change a.eval (.tmp 60) = .int .u32 ((y : Nat) : Int) at e60
            exact does_shr _ _ 10 (by decide) rfl e60 ⟨hCW, Below.refl _ _, rfl⟩
          · intro hp
            have e59 := preds_get hp 19 _ rfl rfl
            change a.eval (.tmp 59) = .int .u32 ((Sha.turnL y [17, 19] : Nat) : Int) at e59
            have e61 := preds_get hp 21 _ rfl rfl
            change a.eval (.tmp 61) = .int .u32 ((y / 2 ^ 10 : Nat) : Int) at e61
            exact does_xor _ _ _ _ (Sha.turnL_lt y hy _) (Nat.lt_of_le_of_lt (Nat.div_le_self _ _) hy) rfl e59 e61 ⟨hCW, Below.refl _ _, rfl⟩
          · intro hp
            have e56 := preds_get hp 16 _ rfl rfl
            change a.eval (.tmp 56) = .int .u32 ((Sha.add (Sha.add (f p16) (f p7)) (Sha.s0 x) : Nat) : Int) at e56
            have e62 := preds_get hp 22 _ rfl rfl
            change a.eval (.tmp 62) = .int .u32 ((Sha.s1 y : Nat) : Int) at e62
            exact does_add _ _ _ _ rfl e56 e62 ⟨hCW, Below.refl _ _, rfl⟩
          · intro hp
            have e5 : a.eval (.tmp 5) = .pointer (some ⟨B2, 0, none⟩) := (hold 5 (by decide)).trans rfl
            have e40 := preds_get hp 0 _ rfl rfl
            change a.eval (.tmp 40) = .int .i64 ((k : Nat) : Int) at e40
            exact does_at64 _ _ _ _ (by omega) rfl e5 e40 ⟨hCW, Below.refl _ _, rfl⟩
        case hfin =>
          intro z W hCW hall
          obtain ⟨-, -, -, -, -, -, -, -, -, -, -, -, -, -, -, -, -, -, -, -, -, -, -, z63, z64, -⟩ := hall
          change z 63 = _ at z63
          change z 64 = _ at z64
          obtain ⟨⟨hA, hR⟩, hD, hB⟩ := hCW
          have q4 : W.cell? ⟨B2, k, none⟩ = some (.int .u32 (f k : Nat)) := (hD.cell _).trans (row_get _ _ _ _ (by omega))
          have q5 : W.frozen? ⟨B2, k, none⟩ = false := hD.free _
          simp only [dsts, List.take_succ_cons, List.take_zero, List.filterMap_cons, List.filterMap_nil, List.foldl_cons, List.foldl_nil, List.setIfInBounds_toArray, List.set_cons_succ, List.set_cons_zero]
          generalize z 40 = z40 at *
          simp only [z63, z64]
          go_wp2_with fail
          refine ⟨⟨k + 1, by omega, by go_num, hA.far (p := ⟨B2, k, none⟩) (by simp; omega) _, hR.far (p := ⟨B2, k, none⟩) (by simp; omega) _, ?_, hB.setCell (p := ⟨B2, k, none⟩) (by simp; omega) _⟩, by simp [intOf]; omega⟩
          rw [HS.out]
          exact hD.putN k _ (by omega)
    · obtain rfl : k = 64 := by omega
      have hsz := hB.size
      have hl3 := hD.lt
      have hwl : ∀ i, Sha.wTo b 64 i < 4294967296 := fun i => Sha.wTo_lt b 64 i
      have hmix : Sha.mix h b = Sha.sumTo h (Sha.rndTo Sha.cF (Sha.wTo b 64) h 64) 8 := rfl
      have HM := Lib.hid hmix
      clear hmix
      generalize Sha.wTo b 64 = f at *
      have hB5 : Below w.heap.size w ((wr.alloc (.cells (octV (fun _ => 0)) 45)).setRow wr.heap.size (octV h)) := below_putRow (hB.alloc hsz _) hsz _
      go_wp2_with (first
        | (with_reducible show wpList _ _ _ (⟨some 66, _, _, _, _, _⟩ :: _) _ _; refine wpList_loadRow rfl 45 _ rfl w.heap.size rfl 45 _ _ hA Tryd.underlying45 rfl (by rw [row_size]; exact info45) ?_)
        | (with_reducible show wpList _ _ _ (⟨some 67, _, _, _, _, _⟩ :: _) _ _; refine wpList_loadCells rfl 54 _ rfl 1 rfl constsV _ ?ld Tryd.underlying54 rfl (by rw [row_size]; exact info54) ?_)
        | (with_reducible show wpList _ _ _ (⟨none, _, _, _, _, _⟩ :: _) _ _; refine wpList_storeRow rfl 45 _ _ rfl wr.heap.size _ rfl rfl 45 _ (Holds_.new wr 45 _) (by rw [row_size]; exact info45) (by simp [row_size]) (row_one _ _ _) ?_))
      case ld => exact hT.2.below hB5 hT0
      refine wp_abs (fun W => (Holds_ W w.heap.size 45 (octV h) ∧ Holds_ W B1 45 (octV (fun _ => 0))) ∧ (Holds_ W B2 54 (wordsV f) ∧ Holds_ W wr.heap.size 45 (octV h)) ∧ Below w.heap.size w W) ?f1 ?g1
      case f1 =>
        exact ⟨⟨(hA.alloc _).farRow (Nat.ne_of_lt hA.lt) _, (hR.alloc _).farRow (Nat.ne_of_lt hR.lt) _⟩, ⟨(hD.alloc _).farRow (Nat.ne_of_lt hD.lt) _, (Holds_.new wr 45 (octV (fun _ => 0))).putRow _⟩, hB5⟩
      rintro W3 ⟨⟨hA, hR⟩, ⟨hD, hV⟩, hB⟩
      clear hB5 hsz
      generalize hB3 : wr.heap.size = B3 at *
      go_loopw [68] (fun t wr => ∃ k : Nat, k ≤ 64 ∧ t = .int .i64 k ∧ (Holds_ wr w.heap.size 45 (octV h) ∧ Holds_ wr B1 45 (octV (fun _ => 0))) ∧ (Holds_ wr B2 54 (wordsV f) ∧ Holds_ wr B3 45 (octV (Sha.rndTo Sha.cF f h k))) ∧ Below w.heap.size w wr)
        (fun t _ => 64 - (intOf t).toNat)
      case atStart => exact ⟨0, by omega, rfl, ⟨hA, hR⟩, ⟨hD, hV⟩, hB⟩
      case round =>
        obtain ⟨k, hk, rfl, ⟨hA, hR⟩, ⟨hD, hV⟩, hB⟩ := hrel
        by_cases hlt : k < 64
        · have hok := Sha.rndTo_ok Sha.cF f h hh k
          have hup : Sha.rndTo Sha.cF f h (k + 1) = Sha.rnd (Sha.cF k) (f k) (Sha.rndTo Sha.cF f h k) := rfl
          have HS := Lib.hid hup
          clear hup
          generalize Sha.rndTo Sha.cF f h k = v at *
          have hidx := fun W => run_index_row (P := Tryd.prog) 54 44 64 .u32 .i64 (fun i => ((Sha.cF i : Nat) : Int)) k Tryd.underlying54 Tryd.underlying44 info44 hlt W
          have hcl := Sha.cF_ok k hlt
          generalize Sha.cF k = c at *
          have hv0 := hok 0 (by omega)
          have hv1 := hok 1 (by omega)
          have hv4 := hok 4 (by omega)
          have hv5 := hok 5 (by omega)
          have hv6 := hok 6 (by omega)
          have hv2 := hok 2 (by omega)
          have hlt64 : (k : Int) < 64 := by omega
          have q1 : wr.cell? ⟨B3, 4, none⟩ = some (.int .u32 (v 4 : Nat)) := (hV.cell _).trans (row_get _ _ _ _ (by omega))
          have q2 : wr.cell? ⟨B3, 0, none⟩ = some (.int .u32 (v 0 : Nat)) := (hV.cell _).trans (row_get _ _ _ _ (by omega))
          go_wp2_with fail
          go_still (by kernel_rfl)
          change Exit.then _ _ _ _ wr.drew
          go_wp2_with fail
          clear q1 q2 hidx
          let C : World → Prop := fun W => (Holds_ W w.heap.size 45 (octV h) ∧ Holds_ W B1 45 (octV fun _ => 0)) ∧ (Holds_ W B2 54 (wordsV f) ∧ Holds_ W B3 45 (octV v)) ∧ Below w.heap.size w W
          have hC0 : C wr.drew.drew := ⟨⟨hA, hR⟩, ⟨hD, hV⟩, hB.drew.drew⟩
          have hCk : ∀ W W', Keep W W' → C W → C W' := fun W W' hk ⟨⟨a1, a2⟩, ⟨a3, a5⟩, a4⟩ => ⟨⟨a1.below hk a1.lt, a2.below hk a2.lt⟩, ⟨a3.below hk a3.lt, a5.below hk a5.lt⟩, a4.trans (hk.mono a4.size)⟩
          have hCf : ∀ i, i < 64 → ∀ W, C W → W.cell? ⟨B2, i, none⟩ = some (.int .u32 ((f i : Nat) : Int)) := fun i hi W hW => (hW.2.1.1.cell _).trans (row_get _ _ _ _ hi)
          have hCv : ∀ i, i < 8 → ∀ W, C W → W.cell? ⟨B3, i, none⟩ = some (.int .u32 ((v i : Nat) : Int)) := fun i hi W hW => (hW.2.1.2.cell _).trans (row_get _ _ _ _ hi)
          refine wp_region_inv C Keep (fsP [pv (.pointer (some ⟨B3, 7, none⟩)), pv (.int .u32 ((v 7 : Nat) : Int)), pv (.int .u32 ((v 4 : Nat) : Int)), psl [6, 11, 25], pv (.int .u32 ((Sha.turnL (v 4) [6, 11, 25] : Nat) : Int)), pv (.int .u32 ((Sha.add (v 7) (Sha.turnL (v 4) [6, 11, 25]) : Nat) : Int)), pv (.int .u32 ((v 4 : Nat) : Int)), pv (.pointer (some ⟨B3, 5, none⟩)), pv (.int .u32 ((v 5 : Nat) : Int)), pv (.int .u32 ((v 4 &&& v 5 : Nat) : Int)), pv (.int .u32 ((v 4 : Nat) : Int)), pv (.int .u32 ((Sha.not32 (v 4) : Nat) : Int)), pv (.pointer (some ⟨B3, 6, none⟩)), pv (.int .u32 ((v 6 : Nat) : Int)), pv (.int .u32 ((Sha.not32 (v 4) &&& v 6 : Nat) : Int)), pv (.int .u32 (((v 4 &&& v 5) ^^^ (Sha.not32 (v 4) &&& v 6) : Nat) : Int)), pv (.int .u32 ((Sha.add (Sha.add (v 7) (Sha.turnL (v 4) [6, 11, 25])) ((v 4 &&& v 5) ^^^ (Sha.not32 (v 4) &&& v 6)) : Nat) : Int)), pv (.int .u32 ((c : Nat) : Int)), pv (.int .u32 ((Sha.add (Sha.add (Sha.add (v 7) (Sha.turnL (v 4) [6, 11, 25])) ((v 4 &&& v 5) ^^^ (Sha.not32 (v 4) &&& v 6))) c : Nat) : Int)), pv (.int .i64 ((k : Nat) : Int)), pv (.pointer (some ⟨B2, k, none⟩)), pv (.int .u32 ((f k : Nat) : Int)), pv (.int .u32 ((Sha.add (Sha.add (Sha.add (Sha.add (v 7) (Sha.turnL (v 4) [6, 11, 25])) ((v 4 &&& v 5) ^^^ (Sha.not32 (v 4) &&& v 6))) c) (f k) : Nat) : Int)), pv (.int .u32 ((Sha.add (Sha.add (Sha.add (Sha.add (v 7) (Sha.turnL (v 4) [6, 11, 25])) ((v 4 &&& v 5) ^^^ (Sha.not32 (v 4) &&& v 6))) c) (f k) : Nat) : Int))]) (by kernel_rfl) (by kernel_rfl) (by kernel_rfl) hC0 (fsP_st _ ?st15) ?hop15 ?hfin15
          case st15 => repeat (first | exact st_nil | refine st_cons (st_pv _) ?_ | refine st_cons (st_psl _) ?_)
          case hop15 =>
            intro a W hCW hold
            refine ⟨?_, ?_, ?_, ?_, ?_, ?_, ?_, ?_, ?_, ?_, ?_, ?_, ?_, ?_, ?_, ?_, ?_, ?_, ?_, ?_, ?_, ?_, ?_, ?_, trivial⟩
            · intro hp
              have e9 : a.eval (.tmp 9) = .pointer (some ⟨B3, 0, none⟩) := (hold 9 (by decide)).trans rfl
              exact does_at8 _ _ _ 7 (by decide) rfl e9 rfl ⟨hCW, Below.refl _ _, rfl⟩
            · intro hp
              have e76 := preds_get hp 0 _ rfl rfl
              change a.eval (.tmp 76) = .pointer (some ⟨B3, 7, none⟩) at e76
              exact does_load _ _ _ _ rfl e76 (hCv 7 (by omega) W hCW) ⟨hCW, Below.refl _ _, rfl⟩
            · intro hp
              have e12 : a.eval (.tmp 12) = .int .u32 ((v 4 : Nat) : Int) := (hold 12 (by decide)).trans rfl
              exact does_move _ _ rfl e12 ⟨hCW, Below.refl _ _, rfl⟩
            · intro hp
              exact does_three 6 11 25 rfl (fun v' W' hk hp' => ⟨hCk W W' hk hCW, hk, hp'⟩)
            · intro hp
              have e78 := preds_get hp 2 _ rfl rfl
              change a.eval (.tmp 78) = .int .u32 ((v 4 : Nat) : Int) at e78
              have e79 := preds_get hp 3 _ rfl rfl
              change psl [6, 11, 25] (a.eval (.tmp 79)) W at e79
              exact does_turned _ _ _ _ hv4 (by decide) (by decide) rfl e78 e79 ⟨hCW, Below.refl _ _, rfl⟩
            · intro hp
              have e77 := preds_get hp 1 _ rfl rfl
              change a.eval (.tmp 77) = .int .u32 ((v 7 : Nat) : Int) at e77
              have e80 := preds_get hp 4 _ rfl rfl
              change a.eval (.tmp 80) = .int .u32 ((Sha.turnL (v 4) [6, 11, 25] : Nat) : Int) at e80
              exact does_add _ _ _ _ rfl e77 e80 ⟨hCW, Below.refl _ _, rfl⟩
            · intro hp
              have e12 : a.eval (.tmp 12) = .int .u32 ((v 4 : Nat) : Int) := (hold 12 (by decide)).trans rfl
              exact does_move _ _ rfl e12 ⟨hCW, Below.refl _ _, rfl⟩
            · intro hp
              have e9 : a.eval (.tmp 9) = .pointer (some ⟨B3, 0, none⟩) := (hold 9 (by decide)).trans rfl
              exact does_at8 _ _ _ 5 (by decide) rfl e9 rfl ⟨hCW, Below.refl _ _, rfl⟩
            · intro hp
              have e83 := preds_get hp 7 _ rfl rfl
              change a.eval (.tmp 83) = .pointer (some ⟨B3, 5, none⟩) at e83
              exact does_load _ _ _ _ rfl e83 (hCv 5 (by omega) W hCW) ⟨hCW, Below.refl _ _, rfl⟩
            · intro hp
              have e82 := preds_get hp 6 _ rfl rfl
              change a.eval (.tmp 82) = .int .u32 ((v 4 : Nat) : Int) at e82
              have e84 := preds_get hp 8 _ rfl rfl
              change a.eval (.tmp 84) = .int .u32 ((v 5 : Nat) : Int) at e84
              exact does_and _ _ _ _ hv4 hv5 rfl e82 e84 ⟨hCW, Below.refl _ _, rfl⟩
            · intro hp
              have e12 : a.eval (.tmp 12) = .int .u32 ((v 4 : Nat) : Int) := (hold 12 (by decide)).trans rfl
              exact does_move _ _ rfl e12 ⟨hCW, Below.refl _ _, rfl⟩
            · intro hp
              have e86 := preds_get hp 10 _ rfl rfl
              change a.eval (.tmp 86) = .int .u32 ((v 4 : Nat) : Int) at e86
              exact does_not _ _ hv4 rfl e86 ⟨hCW, Below.refl _ _, rfl⟩
            · intro hp
              have e9 : a.eval (.tmp 9) = .pointer (some ⟨B3, 0, none⟩) := (hold 9 (by decide)).trans rfl
              exact does_at8 _ _ _ 6 (by decide) rfl e9 rfl ⟨hCW, Below.refl _ _, rfl⟩
            · intro hp
              have e88 := preds_get hp 12 _ rfl rfl
              change a.eval (.tmp 88) = .pointer (some ⟨B3, 6, none⟩) at e88
              exact does_load _ _ _ _ rfl e88 (hCv 6 (by omega) W hCW) ⟨hCW, Below.refl _ _, rfl⟩
            · intro hp
              have e87 := preds_get hp 11 _ rfl rfl
              change a.eval (.tmp 87) = .int .u32 ((Sha.not32 (v 4) : Nat) : Int) at e87
              have e89 := preds_get hp 13 _ rfl rfl
              change a.eval (.tmp 89) = .int .u32 ((v 6 : Nat) : Int) at e89
              exact does_and _ _ _ _ (by unfold Sha.not32; omega) hv6 rfl e87 e89 ⟨hCW, Below.refl _ _, rfl⟩
            · intro hp
              have e85 := preds_get hp 9 _ rfl rfl
              change a.eval (.tmp 85) = .int .u32 ((v 4 &&& v 5 : Nat) : Int) at e85
              have e90 := preds_get hp 14 _ rfl rfl
              change a.eval (.tmp 90) = .int .u32 ((Sha.not32 (v 4) &&& v 6 : Nat) : Int) at e90
              exact does_xor _ _ _ _ (Nat.lt_of_le_of_lt Nat.and_le_left hv4) (Nat.lt_of_le_of_lt Nat.and_le_right hv6) rfl e85 e90 ⟨hCW, Below.refl _ _, rfl⟩
            · intro hp
              have e81 := preds_get hp 5 _ rfl rfl
              change a.eval (.tmp 81) = .int .u32 ((Sha.add (v 7) (Sha.turnL (v 4) [6, 11, 25]) : Nat) : Int) at e81
              have e91 := preds_get hp 15 _ rfl rfl
              change a.eval (.tmp 91) = .int .u32 (((v 4 &&& v 5) ^^^ (Sha.not32 (v 4) &&& v 6) : Nat) : Int) at e91
              exact does_add _ _ _ _ rfl e81 e91 ⟨hCW, Below.refl _ _, rfl⟩
            · intro hp
              have e11 : a.eval (.tmp 11) = .int .u32 ((c : Nat) : Int) := (hold 11 (by decide)).trans rfl
              exact does_move _ _ rfl e11 ⟨hCW, Below.refl _ _, rfl⟩
            · intro hp
              have e92 := preds_get hp 16 _ rfl rfl
              change a.eval (.tmp 92) = .int .u32 ((Sha.add (Sha.add (v 7) (Sha.turnL (v 4) [6, 11, 25])) ((v 4 &&& v 5) ^^^ (Sha.not32 (v 4) &&& v 6)) : Nat) : Int) at e92
              have e93 := preds_get hp 17 _ rfl rfl
              change a.eval (.tmp 93) = .int .u32 ((c : Nat) : Int) at e93
              exact does_add _ _ _ _ rfl e92 e93 ⟨hCW, Below.refl _ _, rfl⟩
            · intro hp
              have e10 : a.eval (.tmp 10) = .int .i64 ((k : Nat) : Int) := (hold 10 (by decide)).trans rfl
              exact does_move _ _ rfl e10 ⟨hCW, Below.refl _ _, rfl⟩
            · intro hp
              have e5 : a.eval (.tmp 5) = .pointer (some ⟨B2, 0, none⟩) := (hold 5 (by decide)).trans rfl
              have e95 := preds_get hp 19 _ rfl rfl
              change a.eval (.tmp 95) = .int .i64 ((k : Nat) : Int) at e95
              exact does_at64 _ _ _ _ (by omega) rfl e5 e95 ⟨hCW, Below.refl _ _, rfl⟩
            · intro hp
              have e96 := preds_get hp 20 _ rfl rfl
              change a.eval (.tmp 96) = .pointer (some ⟨B2, k, none⟩) at e96
              exact does_load _ _ _ _ rfl e96 (hCf k hlt W hCW) ⟨hCW, Below.refl _ _, rfl⟩
            · intro hp
              have e94 := preds_get hp 18 _ rfl rfl
              change a.eval (.tmp 94) = .int .u32 ((Sha.add (Sha.add (Sha.add (v 7) (Sha.turnL (v 4) [6, 11, 25])) ((v 4 &&& v 5) ^^^ (Sha.not32 (v 4) &&& v 6))) c : Nat) : Int) at e94
              have e97 := preds_get hp 21 _ rfl rfl
              change a.eval (.tmp 97) = .int .u32 ((f k : Nat) : Int) at e97
              exact does_add _ _ _ _ rfl e94 e97 ⟨hCW, Below.refl _ _, rfl⟩
            · intro hp
              have e98 := preds_get hp 22 _ rfl rfl
              change a.eval (.tmp 98) = .int .u32 ((Sha.add (Sha.add (Sha.add (Sha.add (v 7) (Sha.turnL (v 4) [6, 11, 25])) ((v 4 &&& v 5) ^^^ (Sha.not32 (v 4) &&& v 6))) c) (f k) : Nat) : Int) at e98
              exact does_assign _ _ rfl e98 ⟨hCW, Below.refl _ _, rfl⟩
          case hfin15 =>
            intro z W hCW hall
            obtain ⟨-, -, -, -, -, -, -, -, -, -, -, -, -, -, -, -, -, -, -, -, -, -, -, z14, -⟩ := hall
            change z 14 = _ at z14
            simp only [dsts, List.length_cons, List.length_nil, Nat.reduceAdd, List.take_succ_cons, List.take_zero, List.filterMap_cons, List.filterMap_nil, List.foldl_cons, List.foldl_nil, List.setIfInBounds_toArray, List.set_cons_succ, List.set_cons_zero]
            simp only [z14]
            have htt : Sha.tt c (f k) v = Sha.add (Sha.add (Sha.add (Sha.add (v 7) (Sha.turnL (v 4) [6, 11, 25])) ((v 4 &&& v 5) ^^^ (Sha.not32 (v 4) &&& v 6))) c) (f k) := rfl
            rw [← htt]
            clear hC0 htt
            go_wp2_with fail
            refine wp_region_inv C Keep (fsP [pv (.int .u32 ((v 0 : Nat) : Int)), psl [2, 13, 22], pv (.int .u32 ((Sha.turnL (v 0) [2, 13, 22] : Nat) : Int)), pv (.int .u32 ((v 0 : Nat) : Int)), pv (.pointer (some ⟨B3, 1, none⟩)), pv (.int .u32 ((v 1 : Nat) : Int)), pv (.int .u32 ((v 0 &&& v 1 : Nat) : Int)), pv (.int .u32 ((v 0 : Nat) : Int)), pv (.pointer (some ⟨B3, 2, none⟩)), pv (.int .u32 ((v 2 : Nat) : Int)), pv (.int .u32 ((v 0 &&& v 2 : Nat) : Int)), pv (.int .u32 (((v 0 &&& v 1) ^^^ (v 0 &&& v 2) : Nat) : Int)), pv (.pointer (some ⟨B3, 1, none⟩)), pv (.int .u32 ((v 1 : Nat) : Int)), pv (.pointer (some ⟨B3, 2, none⟩)), pv (.int .u32 ((v 2 : Nat) : Int)), pv (.int .u32 ((v 1 &&& v 2 : Nat) : Int)), pv (.int .u32 (((v 0 &&& v 1) ^^^ (v 0 &&& v 2) ^^^ (v 1 &&& v 2) : Nat) : Int)), pv (.int .u32 ((Sha.add (Sha.turnL (v 0) [2, 13, 22]) ((v 0 &&& v 1) ^^^ (v 0 &&& v 2) ^^^ (v 1 &&& v 2)) : Nat) : Int)), pv (.int .u32 ((Sha.add (Sha.turnL (v 0) [2, 13, 22]) ((v 0 &&& v 1) ^^^ (v 0 &&& v 2) ^^^ (v 1 &&& v 2)) : Nat) : Int))]) (by kernel_rfl) (by kernel_rfl) (by kernel_rfl) ?c16 (fsP_st _ ?st16) ?hop16 ?hfin16
            case c16 => exact ⟨hCW.1, hCW.2.1, hCW.2.2.drew⟩
            case st16 => repeat (first | exact st_nil | refine st_cons (st_pv _) ?_ | refine st_cons (st_psl _) ?_)
            case hop16 =>
              clear hCW
              intro a W hCW hold
              refine ⟨?_, ?_, ?_, ?_, ?_, ?_, ?_, ?_, ?_, ?_, ?_, ?_, ?_, ?_, ?_, ?_, ?_, ?_, ?_, ?_, trivial⟩
              · intro hp
                have e13 : a.eval (.tmp 13) = .int .u32 ((v 0 : Nat) : Int) := (hold 13 (by decide)).trans rfl
                exact does_move _ _ rfl e13 ⟨hCW, Below.refl _ _, rfl⟩
              · intro hp
                exact does_three 2 13 22 rfl (fun v' W' hk hp' => ⟨hCk W W' hk hCW, hk, hp'⟩)
              · intro hp
                have e99 := preds_get hp 0 _ rfl rfl
                change a.eval (.tmp 99) = .int .u32 ((v 0 : Nat) : Int) at e99
                have e100 := preds_get hp 1 _ rfl rfl
                change psl [2, 13, 22] (a.eval (.tmp 100)) W at e100
                exact does_turned _ _ _ _ hv0 (by decide) (by decide) rfl e99 e100 ⟨hCW, Below.refl _ _, rfl⟩
              · intro hp
                have e13 : a.eval (.tmp 13) = .int .u32 ((v 0 : Nat) : Int) := (hold 13 (by decide)).trans rfl
                exact does_move _ _ rfl e13 ⟨hCW, Below.refl _ _, rfl⟩
              · intro hp
                have e9 : a.eval (.tmp 9) = .pointer (some ⟨B3, 0, none⟩) := (hold 9 (by decide)).trans rfl
                exact does_at8 _ _ _ 1 (by decide) rfl e9 rfl ⟨hCW, Below.refl _ _, rfl⟩
              · intro hp
                have e103 := preds_get hp 4 _ rfl rfl
                change a.eval (.tmp 103) = .pointer (some ⟨B3, 1, none⟩) at e103
                exact does_load _ _ _ _ rfl e103 (hCv 1 (by omega) W hCW) ⟨hCW, Below.refl _ _, rfl⟩
              · intro hp
                have e102 := preds_get hp 3 _ rfl rfl
                change a.eval (.tmp 102) = .int .u32 ((v 0 : Nat) : Int) at e102
                have e104 := preds_get hp 5 _ rfl rfl
                change a.eval (.tmp 104) = .int .u32 ((v 1 : Nat) : Int) at e104
                exact does_and _ _ _ _ hv0 hv1 rfl e102 e104 ⟨hCW, Below.refl _ _, rfl⟩
              · intro hp
                have e13 : a.eval (.tmp 13) = .int .u32 ((v 0 : Nat) : Int) := (hold 13 (by decide)).trans rfl
                exact does_move _ _ rfl e13 ⟨hCW, Below.refl _ _, rfl⟩
              · intro hp
                have e9 : a.eval (.tmp 9) = .pointer (some ⟨B3, 0, none⟩) := (hold 9 (by decide)).trans rfl
                exact does_at8 _ _ _ 2 (by decide) rfl e9 rfl ⟨hCW, Below.refl _ _, rfl⟩
              · intro hp
                have e107 := preds_get hp 8 _ rfl rfl
                change a.eval (.tmp 107) = .pointer (some ⟨B3, 2, none⟩) at e107
                exact does_load _ _ _ _ rfl e107 (hCv 2 (by omega) W hCW) ⟨hCW, Below.refl _ _, rfl⟩
              · intro hp
                have e106 := preds_get hp 7 _ rfl rfl
                change a.eval (.tmp 106) = .int .u32 ((v 0 : Nat) : Int) at e106
                have e108 := preds_get hp 9 _ rfl rfl
                change a.eval (.tmp 108) = .int .u32 ((v 2 : Nat) : Int) at e108
                exact does_and _ _ _ _ hv0 hv2 rfl e106 e108 ⟨hCW, Below.refl _ _, rfl⟩
              · intro hp
                have e105 := preds_get hp 6 _ rfl rfl
                change a.eval (.tmp 105) = .int .u32 ((v 0 &&& v 1 : Nat) : Int) at e105
                have e109 := preds_get hp 10 _ rfl rfl
                change a.eval (.tmp 109) = .int .u32 ((v 0 &&& v 2 : Nat) : Int) at e109
                exact does_xor _ _ _ _ (Nat.lt_of_le_of_lt Nat.and_le_left hv0) (Nat.lt_of_le_of_lt Nat.and_le_left hv0) rfl e105 e109 ⟨hCW, Below.refl _ _, rfl⟩
              · intro hp
                have e9 : a.eval (.tmp 9) = .pointer (some ⟨B3, 0, none⟩) := (hold 9 (by decide)).trans rfl
                exact does_at8 _ _ _ 1 (by decide) rfl e9 rfl ⟨hCW, Below.refl _ _, rfl⟩
              · intro hp
                have e111 := preds_get hp 12 _ rfl rfl
                change a.eval (.tmp 111) = .pointer (some ⟨B3, 1, none⟩) at e111
                exact does_load _ _ _ _ rfl e111 (hCv 1 (by omega) W hCW) ⟨hCW, Below.refl _ _, rfl⟩
              · intro hp
                have e9 : a.eval (.tmp 9) = .pointer (some ⟨B3, 0, none⟩) := (hold 9 (by decide)).trans rfl
                exact does_at8 _ _ _ 2 (by decide) rfl e9 rfl ⟨hCW, Below.refl _ _, rfl⟩
              · intro hp
                have e113 := preds_get hp 14 _ rfl rfl
                change a.eval (.tmp 113) = .pointer (some ⟨B3, 2, none⟩) at e113
                exact does_load _ _ _ _ rfl e113 (hCv 2 (by omega) W hCW) ⟨hCW, Below.refl _ _, rfl⟩
              · intro hp
                have e112 := preds_get hp 13 _ rfl rfl
                change a.eval (.tmp 112) = .int .u32 ((v 1 : Nat) : Int) at e112
                have e114 := preds_get hp 15 _ rfl rfl
                change a.eval (.tmp 114) = .int .u32 ((v 2 : Nat) : Int) at e114
                exact does_and _ _ _ _ hv1 hv2 rfl e112 e114 ⟨hCW, Below.refl _ _, rfl⟩
              · intro hp
                have e110 := preds_get hp 11 _ rfl rfl
                change a.eval (.tmp 110) = .int .u32 (((v 0 &&& v 1) ^^^ (v 0 &&& v 2) : Nat) : Int) at e110
                have e115 := preds_get hp 16 _ rfl rfl
                change a.eval (.tmp 115) = .int .u32 ((v 1 &&& v 2 : Nat) : Int) at e115
                exact does_xor _ _ _ _ (Nat.xor_lt_two_pow (n := 32) (Nat.lt_of_le_of_lt Nat.and_le_left hv0) (Nat.lt_of_le_of_lt Nat.and_le_left hv0)) (Nat.lt_of_le_of_lt Nat.and_le_left hv1) rfl e110 e115 ⟨hCW, Below.refl _ _, rfl⟩
              · intro hp
                have e101 := preds_get hp 2 _ rfl rfl
                change a.eval (.tmp 101) = .int .u32 ((Sha.turnL (v 0) [2, 13, 22] : Nat) : Int) at e101
                have e116 := preds_get hp 17 _ rfl rfl
                change a.eval (.tmp 116) = .int .u32 (((v 0 &&& v 1) ^^^ (v 0 &&& v 2) ^^^ (v 1 &&& v 2) : Nat) : Int) at e116
                exact does_add _ _ _ _ rfl e101 e116 ⟨hCW, Below.refl _ _, rfl⟩
              · intro hp
                have e117 := preds_get hp 18 _ rfl rfl
                change a.eval (.tmp 117) = .int .u32 ((Sha.add (Sha.turnL (v 0) [2, 13, 22]) ((v 0 &&& v 1) ^^^ (v 0 &&& v 2) ^^^ (v 1 &&& v 2)) : Nat) : Int) at e117
                exact does_assign _ _ rfl e117 ⟨hCW, Below.refl _ _, rfl⟩
            case hfin16 =>
              clear hCW
              intro y W hCW hall
              obtain ⟨-, -, -, -, -, -, -, -, -, -, -, -, -, -, -, -, -, -, -, y15, -⟩ := hall
              change y 15 = _ at y15
              simp only [dsts, List.length_cons, List.length_nil, Nat.reduceAdd, List.take_succ_cons, List.take_zero, List.filterMap_cons, List.filterMap_nil, List.foldl_cons, List.foldl_nil, List.setIfInBounds_toArray, List.set_cons_succ, List.set_cons_zero]
              simp only [y15]
              have huu : Sha.uu v = Sha.add (Sha.turnL (v 0) [2, 13, 22]) ((v 0 &&& v 1) ^^^ (v 0 &&& v 2) ^^^ (v 1 &&& v 2)) := rfl
              rw [← huu]
              clear huu
              go_wp2_with fail
              refine wp_region_inv_tail 2 _ C Keep (fsP [pv (.slice (some ⟨B3, 1, none⟩) 7 7), pv (.slice (some ⟨B3, 0, none⟩) 7 8)]) (by kernel_rfl) rfl rfl (by kernel_rfl) (by kernel_rfl) (by kernel_rfl) ?c17 (fsP_st _ ?st17) ?hop17 ?hfin17
              case c17 => exact ⟨hCW.1, hCW.2.1, hCW.2.2.drew⟩
              case st17 => exact st_cons (st_pv _) (st_cons (st_pv _) st_nil)
              case hop17 =>
                clear hCW
                intro a W hCW hold
                have e9 : a.eval (.tmp 9) = .pointer (some ⟨B3, 0, none⟩) := (hold 9 (by decide)).trans rfl
                exact ⟨fun _ => does_from1 _ B3 rfl e9 ⟨hCW, Below.refl _ _, rfl⟩, fun _ => does_to7 _ B3 rfl e9 ⟨hCW, Below.refl _ _, rfl⟩, trivial⟩
              case hfin17 =>
                clear hCW
                intro x W hCW hall
                obtain ⟨x118, x119, -⟩ := hall
                change x 118 = _ at x118
                change x 119 = _ at x119
                simp only [dsts, List.take_succ_cons, List.take_zero, List.filterMap_cons, List.filterMap_nil, List.foldl_cons, List.foldl_nil, List.setIfInBounds_toArray, List.set_cons_succ, List.set_cons_zero]
                simp only [x118, x119]
                obtain ⟨⟨hA, hR⟩, ⟨hD, hV⟩, hB⟩ := hCW
                refine wpList_copied rfl _ _ 58 58 rfl _ _ rfl rfl (copied_run hV _) ?_
                have hA4 := setCells_far _ B3 (by omega) _ _ [.int .u32 (v 0 : Nat), .int .u32 (v 1 : Nat), .int .u32 (v 2 : Nat), .int .u32 (v 3 : Nat), .int .u32 (v 4 : Nat), .int .u32 (v 5 : Nat), .int .u32 (v 6 : Nat)] 1 W hA
                have hR4 := setCells_far _ B3 (by omega) _ _ [.int .u32 (v 0 : Nat), .int .u32 (v 1 : Nat), .int .u32 (v 2 : Nat), .int .u32 (v 3 : Nat), .int .u32 (v 4 : Nat), .int .u32 (v 5 : Nat), .int .u32 (v 6 : Nat)] 1 W hR
                have hD4 := setCells_far _ B3 (by omega) _ _ [.int .u32 (v 0 : Nat), .int .u32 (v 1 : Nat), .int .u32 (v 2 : Nat), .int .u32 (v 3 : Nat), .int .u32 (v 4 : Nat), .int .u32 (v 5 : Nat), .int .u32 (v 6 : Nat)] 1 W hD
                have hV4 := hV.copied
                have hB4 := setCells_below B3 (by omega) [.int .u32 (v 0 : Nat), .int .u32 (v 1 : Nat), .int .u32 (v 2 : Nat), .int .u32 (v 3 : Nat), .int .u32 (v 4 : Nat), .int .u32 (v 5 : Nat), .int .u32 (v 6 : Nat)] 1 W hB
                clear hA hR hD hV hB
                generalize W.setCells B3 1 _ = W4 at *
                have q1 : W4.cell? ⟨B3, 4, none⟩ = some (.int .u32 (Sha.shift v 4 : Nat)) := (hV4.cell _).trans (row_get _ _ _ _ (by omega))
                have q2 : W4.frozen? ⟨B3, 4, none⟩ = false := hV4.free _
                have q3 : W4.cell? ⟨B3, 0, none⟩ = some (.int .u32 (Sha.shift v 0 : Nat)) := (hV4.cell _).trans (row_get _ _ _ _ (by omega))
                have q4 : W4.frozen? ⟨B3, 0, none⟩ = false := hV4.free _
                have hrn : Sha.rnd c (f k) v = Sha.upd (Sha.upd (Sha.shift v) 4 (Sha.add (Sha.shift v 4) (Sha.tt c (f k) v))) 0 (Sha.add (Sha.tt c (f k) v) (Sha.uu v)) := rfl
                have HN := Lib.hid hrn
                clear hrn
                generalize Sha.tt c (f k) v = T at *
                generalize Sha.uu v = U at *
                generalize Sha.shift v = vs at *
                have ha1 := add_wrap (vs 4) T
                have ha2 := add_wrap T U
                go_wp2_with fail
                go_roundw
                case rel =>
                  refine ⟨k + 1, by omega, by go_num, ⟨(hA4.far (p := ⟨B3, 4, none⟩) (by simp; omega) _).far (p := ⟨B3, 0, none⟩) (by simp; omega) _, (hR4.far (p := ⟨B3, 4, none⟩) (by simp; omega) _).far (p := ⟨B3, 0, none⟩) (by simp; omega) _⟩, ⟨(hD4.far (p := ⟨B3, 4, none⟩) (by simp; omega) _).far (p := ⟨B3, 0, none⟩) (by simp; omega) _, ?_⟩, (hB4.setCell (p := ⟨B3, 4, none⟩) (by simp; omega) _).setCell (p := ⟨B3, 0, none⟩) (by simp; omega) _⟩
                  rw [HS.out, HN.out]
                  exact (hV4.putN 4 _ (by omega)).putN 0 _ (by omega)
                case measure => simp [intOf]; omega
        · obtain rfl : k = 64 := by omega
          clear hT
          have hok := Sha.rndTo_ok Sha.cF f h hh 64
          generalize Sha.rndTo Sha.cF f h 64 = v at *
          go_wp2_with fail
          go_loopw [131] (fun t wr => ∃ k : Nat, k ≤ 8 ∧ t = .int .i64 k ∧ (Holds_ wr w.heap.size 45 (octV (Sha.sumTo h v k)) ∧ Holds_ wr B1 45 (octV (fun _ => 0))) ∧ Holds_ wr B3 45 (octV v) ∧ Below w.heap.size w wr)
            (fun t _ => 8 - (intOf t).toNat)
          case atStart => exact ⟨0, by omega, rfl, ⟨hA, hR⟩, hV, hB⟩
          case round =>
            obtain ⟨k, hk, rfl, ⟨hA, hR⟩, hV, hB⟩ := hrel
            by_cases hlt : k < 8
            · have q1 : wr.cell? ⟨w.heap.size, k, none⟩ = some (.int .u32 (Sha.sumTo h v k k : Nat)) := (hA.cell _).trans (row_get _ _ _ _ (by omega))
              have q2 : wr.frozen? ⟨w.heap.size, k, none⟩ = false := hA.free _
              have q3 : wr.cell? ⟨B3, k, none⟩ = some (.int .u32 (v k : Nat)) := (hV.cell _).trans (row_get _ _ _ _ (by omega))
              have hlt8 : (k : Int) < 8 := by omega
              have hup : octV (Sha.sumTo h v (k + 1)) = octV (Sha.upd (Sha.sumTo h v k) k (Sha.add (Sha.sumTo h v k k) (v k))) := by
                refine row_congr fun i hi => ?_
                congr 1
                by_cases hik : i = k
                · subst hik; simp [Sha.sumTo, Sha.upd]
                · have : (i < k + 1) = (i < k) := by rw [eq_iff_iff]; omega
                  simp [Sha.sumTo, Sha.upd, hik, this]
              have HS := Lib.hid hup
              have ha := add_wrap (Sha.sumTo h v k k) (v k)
              clear hup
              generalize Sha.sumTo h v k = s at *
              go_wp2_with fail
              go_still_tail 8, (by kernel_rfl)
              change wpList _ _ _ _ _ wr.drew
              have hA2 := hA.drew
              have hR2 := hR.drew
              have hV2 := hV.drew
              have hB2 := hB.drew
              have q4 : wr.drew.cell? ⟨w.heap.size, k, none⟩ = some (.int .u32 (s k : Nat)) := q1
              have q5 : wr.drew.frozen? ⟨w.heap.size, k, none⟩ = false := q2
              generalize wr.drew = wd at *
              clear q1 q2 q3
              go_wp2_with fail
              refine ⟨⟨_, _, _, _, _, _, _, _, _, _, _, _, _, ?rel, rfl⟩, ?meas⟩
              case rel =>
                refine ⟨k + 1, by omega, by go_num, ⟨?_, hR2.far (p := ⟨w.heap.size, k, none⟩) (by simp; omega) _⟩, hV2.far (p := ⟨w.heap.size, k, none⟩) (by simp; omega) _, hB2.setCell (p := ⟨w.heap.size, k, none⟩) (Nat.le_refl _) _⟩
                rw [HS.out]
                exact hA2.putN k _ (by omega)
              case meas => simp [intOf]; omega
            · obtain rfl : k = 8 := by omega
              rw [← HM.out] at hA
              go_wp2_with (first
                | (with_reducible show wpList _ _ _ (⟨some 143, _, _, _, _, _⟩ :: _) _ _; refine wpList_loadRow rfl 45 _ rfl w.heap.size rfl 45 _ _ hA Tryd.underlying45 rfl (by rw [row_size]; exact info45) ?_)
                | (with_reducible show wpList _ _ _ (⟨none, _, _, _, _, _⟩ :: _) _ _; refine wpList_storeRow rfl 45 _ _ rfl B1 _ rfl rfl 45 _ hR (by rw [row_size]; exact info45) (by simp [row_size]) (row_one _ _ _) ?_))
              have hR2 := hR.putRow (octV (Sha.mix h b))
              exact bodyPost_ret (results_cell_row rfl _ _ B1 45 _ (0, 0) _ rfl hR2 Tryd.underlying45 rfl (by rw [row_size]; exact info45)) rfl ⟨rfl, below_putRow hB (by omega) _⟩
end Go.Proofs.YtkgbecgdappjoaaDoor
