/- design.Strength, walked. -/
import Derived.Test.YtoiahjncpngkeaaDoorEv
namespace Go.Proofs.YtoiahjncpngkeaaDoor
set_option linter.unusedSimpArgs false
set_option linter.unusedVariables false
open Go.RowKit Go.Lib Go.Shelf Go.Proofs.YtoiahjncpngkeaaDoorW.PrintWords
attribute [local go_sem] Oper.semAt_some

/-- Parameters with an error. -/
structure Fnd where
  T : Int
  V : Int
  K : Int
  L : Int
  E : Int
deriving DecidableEq
def strF (V : Nat) (bs : List Nat) (k : Nat) : Nat → Nat → Fnd → Fnd
  | 0, _, cur => cur
  | m + 1, t, cur => if chkL V bs t V k (thr bs (2 ^ t - 1)) = 0 then strF V bs k m (t + 1) ⟨t, V, k, thr bs (2 ^ t - 1), 0⟩ else cur
def strL (V : Nat) (bs : List Nat) : Fnd :=
  match bs with
  | [] => ⟨0, 0, 0, 0, 90⟩
  | b :: _ => strF V bs (cnt b 64) (min 3 (cnt b 64) + 1) 0 ⟨0, 0, 0, 0, 90⟩
theorem Blk.set4 {w : World} {g : Nat} {t : TypeId} {a b c d : Value} (h : Blk w g t #[a, b, c, d]) (a' b' c' d' : Value) :
    Blk ((((w.setCell ⟨g, 0, none⟩ a').setCell ⟨g, 1, none⟩ b').setCell ⟨g, 2, none⟩ c').setCell ⟨g, 3, none⟩ d') g t #[a', b', c', d'] := by
  have := (((h.set_ 0 a').set_ 1 b').set_ 2 c').set_ 3 d'
  simpa using this
theorem Blk.far4 {w : World} {g k : Nat} {t : TypeId} {cs : Array Value} (h : Blk w g t cs) (hk : g ≠ k) (a' b' c' d' : Value) :
    Blk ((((w.setCell ⟨k, 0, none⟩ a').setCell ⟨k, 1, none⟩ b').setCell ⟨k, 2, none⟩ c').setCell ⟨k, 3, none⟩ d') g t cs := (((h.far hk a').far hk b').far hk c').far hk d'
theorem below_set4 {B k : Nat} {w W : World} (h : Below B w W) (hk : B ≤ k) (a' b' c' d' : Value) :
    Below B w ((((W.setCell ⟨k, 0, none⟩ a').setCell ⟨k, 1, none⟩ b').setCell ⟨k, 2, none⟩ c').setCell ⟨k, 3, none⟩ d') := (((h.setCell hk a').setCell hk b').setCell hk c').setCell hk d'
theorem pow_form {t : Nat} (ht : t ≤ 3) : IntKind.u64.wrap (IntKind.u64.wrap (2 ^ t) - 1) = ((2 ^ t - 1 : Nat) : Int) := by
  rcases (show t = 0 ∨ t = 1 ∨ t = 2 ∨ t = 3 by omega) with rfl | rfl | rfl | rfl <;> rfl
set_option maxHeartbeats 8000000 in
set_option maxRecDepth 100000 in
theorem strength_any (V : Nat) (A : Option Addr) (n c : Nat) (bs : List Nat) (w : World) (hB : BlC w A n bs) (hn : n < 2 ^ 40) (hb14 : ∀ b ∈ bs, b < 16384) :
    Calls Tryd.prog 45 #[.agg #[.int .i64 V, .slice A n c]] w fun e w' =>
      e = .returned (.tuple #[.agg #[.int .i64 (strL V bs).T, .int .i64 (strL V bs).V, .int .i64 (strL V bs).K, .int .i64 (strL V bs).L], .int .i64 (strL V bs).E]) ∧ Below w.heap.size w w' := by
  have hu := Tryd.underlying26
  have hu2 := Tryd.underlying31
  have HB14 := hid hb14
  clear hb14
  obtain ⟨hn1, _⟩ := id hB
  subst hn1
  go_enter Tryd.func45, Tryd.ntmps45
  cases bs with
  | nil =>
    go_wp2
    refine bodyPost_ret (v := .tuple #[.agg #[.int .i64 0, .int .i64 0, .int .i64 0, .int .i64 0], .int .i64 90]) (by simp [results, Tryd.results45, go_sem]) rfl ⟨rfl, ?_⟩
    exact below_alloc (below_alloc (Below.refl _ _) _) _
  | cons b0 r =>
    obtain ⟨bs, hbs⟩ : ∃ bs, b0 :: r = bs := ⟨_, rfl⟩
    obtain ⟨ad, b, e, hc, hb64, HT⟩ := hB.at_ (show 0 < (b0 :: r).length by simp)
    cases e
    have : b = b0 := by simpa using HT.1.symm
    subst this
    have hb0 := HB14.out b (by simp)
    have HS := hid (show strL V (b :: r) = strF V (b :: r) (cnt b 64) (min 3 (cnt b 64) + 1) 0 ⟨0, 0, 0, 0, 90⟩ from rfl)
    rw [hbs] at HB14 hB hn HS ⊢
    have hpos : 0 < (bs.length : Int) := by rw [← hbs]; simp
    have hpos2 : ((bs.length : Int) == 0) = false := by rw [← hbs]; simp; omega
    have hc0 : w.cell? ad = some (.int .u64 b) := by simpa [go_sem] using hc
    have hb3 : Below w.heap.size w (((w.alloc (.cells #[.int .i64 V, .slice (some ad) bs.length c] 31)).alloc (.cells #[.int .i64 0, .int .i64 0, .int .i64 0, .int .i64 0] 26)).alloc (.cells #[.int .i64 0, .int .i64 0, .int .i64 0, .int .i64 0] 26)) := below_alloc (below_alloc (below_alloc (Below.refl _ _) _) _) _
    have hc3 := (hb3.cell (p := ad) (World.block_lt_of_cell? _ _ hc0)).trans hc0
    obtain ⟨k, hk⟩ : ∃ k, cnt b 64 = k := ⟨_, rfl⟩
    rw [hk] at HS
    have hk64 : k ≤ 64 := by rw [← hk]; exact cnt_le b 64
    clear hc hb64 HT
    have HK := hid hk
    clear hk
    go_wp2_with (go_at_call 34; refine (ones_any b hb0 _).mono ?_; rintro e w' ⟨rfl, rfl⟩; rw [HK.out])
    clear hc3 hc0
    obtain ⟨w0, hw0⟩ : ∃ w0, (((w.alloc (.cells #[.int .i64 V, .slice (some ad) bs.length c] 31)).alloc (.cells #[.int .i64 0, .int .i64 0, .int .i64 0, .int .i64 0] 26)).alloc (.cells #[.int .i64 0, .int .i64 0, .int .i64 0, .int .i64 0] 26)) = w0 := ⟨_, rfl⟩
    have hX0 : Blk w0 w.heap.size 31 #[.int .i64 V, .slice (some ad) bs.length c] := by rw [← hw0]; exact ((Blk.new _ _ _).alloc _).alloc _
    have hR0 : Blk w0 (w.heap.size + 1) 26 #[.int .i64 0, .int .i64 0, .int .i64 0, .int .i64 0] := by
      rw [← hw0]; exact (show Blk _ (w.heap.size + 1) _ _ by have := Blk.new (w.alloc (.cells #[.int .i64 V, .slice (some ad) bs.length c] 31)) 26 #[.int .i64 0, .int .i64 0, .int .i64 0, .int .i64 0]; simpa using this).alloc _
    have hO0 : Blk w0 (w.heap.size + 2) 26 #[.int .i64 0, .int .i64 0, .int .i64 0, .int .i64 0] := by
      rw [← hw0]
      have := Blk.new ((w.alloc (.cells #[.int .i64 V, .slice (some ad) bs.length c] 31)).alloc (.cells #[.int .i64 0, .int .i64 0, .int .i64 0, .int .i64 0] 26)) 26 #[.int .i64 0, .int .i64 0, .int .i64 0, .int .i64 0]
      simpa using this
    rw [hw0] at hb3 ⊢
    clear hw0
    go_loopw [5, 7] (fun e t wr => ∃ (tN : Nat) (cur : Fnd), t = .int .i64 tN ∧ e = .int .i64 cur.E ∧ tN ≤ min 3 k + 1 ∧ Hid (strL V bs = strF V bs k (min 3 k + 1 - tN) tN cur) ∧
      Blk wr w.heap.size 31 #[.int .i64 V, .slice (some ad) bs.length c] ∧ Blk wr (w.heap.size + 1) 26 #[.int .i64 0, .int .i64 0, .int .i64 0, .int .i64 0] ∧
      Blk wr (w.heap.size + 2) 26 #[.int .i64 cur.T, .int .i64 cur.V, .int .i64 cur.K, .int .i64 cur.L] ∧ Below w.heap.size w wr) (fun _ t _ => min 3 k + 1 - (intOf t).toNat)
    case atStart => exact ⟨0, ⟨0, 0, 0, 0, 90⟩, rfl, rfl, by omega, HS.out, hX0, hR0, hO0, hb3⟩
    case round =>
      obtain ⟨tN, cur, rfl, rfl, ht, HF, hX, hR, hO, hbw⟩ := hrel
      have hXl := hX.lt
      have hRl := hR.lt
      have hOl := hO.lt
      have hBr := hB.below hbw
      have x0 : wr.cell? ⟨w.heap.size, 0, none⟩ = some (.int .i64 V) := hX.cell 0
      have x1 : wr.cell? ⟨w.heap.size, 1, none⟩ = some (.slice (some ad) bs.length c) := hX.cell 1
      by_cases hlt : tN ≤ min 3 k
      · have TH := hid (fun W hBW => through_any V (some ad) bs.length c bs (2 ^ tN - 1) (by
          have : 2 ^ tN ≤ 2 ^ 3 := Nat.pow_le_pow_right (by omega) (by omega)
          omega) W hBW (by omega))
        have PF := hid (pow_form (t := tN) (by omega))
        have hmin : (tN : Int) ≤ min 3 (k : Int) := by omega
        have HX := hid hX
        have HR := hid hR
        have HO := hid hO
        clear hX hR hO
        go_wp2
        all_goals
          rename_i K hK
          have REST : ∀ (p : Nat) (W : World) (v21 v22 : Value), Blk W w.heap.size 31 #[.int .i64 V, .slice (some ad) bs.length c] → Blk W (w.heap.size + 1) 26 #[.int .i64 0, .int .i64 0, .int .i64 0, .int .i64 0] →
              Blk W (w.heap.size + 2) 26 #[.int .i64 cur.T, .int .i64 cur.V, .int .i64 cur.K, .int .i64 cur.L] → Blk W p 26 #[.int .i64 tN, .int .i64 V, .int .i64 k, .int .i64 (thr bs (2 ^ tN - 1) : Nat)] → w.heap.size + 2 < p → Below w.heap.size w W →
              K { tmps := #[.agg #[.int .i64 V, .slice (some ad) bs.length c], .pointer (some ⟨w.heap.size, 0, none⟩), .pointer (some ⟨w.heap.size + 1, 0, none⟩), .int .i64 0, .pointer (some ⟨w.heap.size + 1 + 1, 0, none⟩), .int .i64 cur.E, .int .i64 k, .int .i64 tN,
              .pointer (some ⟨p, 0, none⟩), .pointer (some ⟨w.heap.size, 1, none⟩), .slice (some ad) bs.length c, .int .i64 bs.length, .bool false, undef, .pointer (some ⟨w.heap.size, 1, none⟩), .slice (some ad) bs.length c, .pointer (some ad), .int .u64 b, .int .i64 k, .int .i64 tN,
              .int .i64 k, v21, v22, u23, u24, .int .i64 tN, .pointer (some ⟨w.heap.size, 0, none⟩), .int .i64 V, .int .i64 k, .agg #[.int .i64 V, .slice (some ad) bs.length c], .int .i64 tN, .int .u64 (IntKind.u64.wrap (2 ^ tN)), .int .u64 (2 ^ tN - 1 : Nat),
              .int .i64 (thr bs (2 ^ tN - 1) : Nat), .agg #[.int .i64 tN, .int .i64 V, .int .i64 k, .int .i64 (thr bs (2 ^ tN - 1) : Nat)], u35, u36, u37, u38, u39, undef, undef], defers := [] } W := by
            intro p W v21 v22 hX hR hO hP hp hbW
            apply hK
            have x0 : W.cell? ⟨w.heap.size, 0, none⟩ = some (.int .i64 V) := hX.cell 0
            have x1 : W.cell? ⟨w.heap.size, 1, none⟩ = some (.slice (some ad) bs.length c) := hX.cell 1
            have p0 : W.cell? ⟨p, 0, none⟩ = some (.int .i64 tN) := hP.cell 0
            have p1 : W.cell? ⟨p, 1, none⟩ = some (.int .i64 V) := hP.cell 1
            have p2 : W.cell? ⟨p, 2, none⟩ = some (.int .i64 k) := hP.cell 2
            have p3 : W.cell? ⟨p, 3, none⟩ = some (.int .i64 (thr bs (2 ^ tN - 1) : Nat)) := hP.cell 3
            have CK := hid (check_any V (some ad) bs.length c bs tN V k (thr bs (2 ^ tN - 1) : Nat) W (hB.below hbW) hn HB14.out)
            by_cases hc0 : chkL V bs tN V k (thr bs (2 ^ tN - 1)) = 0
            · have HC := hid hc0
              clear hc0
              go_wp2_with (
                go_at_call 12
                refine CK.out.mono ?_
                rintro e W2 ⟨rfl, hb2⟩
                rw [HC.out]
                have hP2 : Blk W2 p 26 #[.int .i64 tN, .int .i64 V, .int .i64 k, .int .i64 (thr bs (2 ^ tN - 1) : Nat)] := (hb2.block p hP.lt).trans hP
                have hX2 : Blk W2 w.heap.size 31 #[.int .i64 V, .slice (some ad) bs.length c] := (hb2.block _ hX.lt).trans hX
                have hR2 : Blk W2 (w.heap.size + 1) 26 #[.int .i64 0, .int .i64 0, .int .i64 0, .int .i64 0] := (hb2.block _ hR.lt).trans hR
                have hO2 : Blk W2 (w.heap.size + 2) 26 #[.int .i64 cur.T, .int .i64 cur.V, .int .i64 cur.K, .int .i64 cur.L] := (hb2.block _ hO.lt).trans hO
                have hbW2 : Below w.heap.size w W2 := below_then hbW (by have := hX.lt; omega) hb2
                have z0 : W2.cell? ⟨p, 0, none⟩ = some (.int .i64 tN) := hP2.cell 0
                have z1 : W2.cell? ⟨p, 1, none⟩ = some (.int .i64 V) := hP2.cell 1
                have z2 : W2.cell? ⟨p, 2, none⟩ = some (.int .i64 k) := hP2.cell 2
                have z3 : W2.cell? ⟨p, 3, none⟩ = some (.int .i64 (thr bs (2 ^ tN - 1) : Nat)) := hP2.cell 3
                have o0 : W2.cell? ⟨w.heap.size + 1 + 1, 0, none⟩ = some (.int .i64 cur.T) := hO2.cell 0
                have f0 : W2.frozen? ⟨w.heap.size + 1 + 1, 0, none⟩ = false := hO2.frozen 0
                have o1 : W2.cell? ⟨w.heap.size + 1 + 1, 1, none⟩ = some (.int .i64 cur.V) := hO2.cell 1
                have f1 : W2.frozen? ⟨w.heap.size + 1 + 1, 1, none⟩ = false := hO2.frozen 1
                have o2 : W2.cell? ⟨w.heap.size + 1 + 1, 2, none⟩ = some (.int .i64 cur.K) := hO2.cell 2
                have f2 : W2.frozen? ⟨w.heap.size + 1 + 1, 2, none⟩ = false := hO2.frozen 2
                have o3 : W2.cell? ⟨w.heap.size + 1 + 1, 3, none⟩ = some (.int .i64 cur.L) := hO2.cell 3
                have f3 : W2.frozen? ⟨w.heap.size + 1 + 1, 3, none⟩ = false := hO2.frozen 3
                skip)
              go_roundw
              case rel =>
                refine ⟨tN + 1, ⟨tN, V, k, thr bs (2 ^ tN - 1), 0⟩, by go_num, rfl, by omega, (show _ = _ from ?_), hX2.far4 (by omega) _ _ _ _, hR2.far4 (by omega) _ _ _ _, hO2.set4 _ _ _ _, ?_⟩
                · rw [HF.out, show min 3 k + 1 - tN = (min 3 k + 1 - (tN + 1)) + 1 from by omega, strF, if_pos HC.out]
                · exact below_set4 hbW2 (by omega) _ _ _ _
              case measure => simp [intOf]; omega
            · have HC := hid hc0
              have hne : (chkL V bs tN V k (thr bs (2 ^ tN - 1)) != 0) = true := by simp [hc0]
              clear hc0
              go_wp2_with (
                go_at_call 12
                refine CK.out.mono ?_
                rintro e W2 ⟨rfl, hb2⟩
                have hP2 : Blk W2 p 26 #[.int .i64 tN, .int .i64 V, .int .i64 k, .int .i64 (thr bs (2 ^ tN - 1) : Nat)] := (hb2.block p hP.lt).trans hP
                have hX2 : Blk W2 w.heap.size 31 #[.int .i64 V, .slice (some ad) bs.length c] := (hb2.block _ hX.lt).trans hX
                have hR2 : Blk W2 (w.heap.size + 1) 26 #[.int .i64 0, .int .i64 0, .int .i64 0, .int .i64 0] := (hb2.block _ hR.lt).trans hR
                have hO2 : Blk W2 (w.heap.size + 2) 26 #[.int .i64 cur.T, .int .i64 cur.V, .int .i64 cur.K, .int .i64 cur.L] := (hb2.block _ hO.lt).trans hO
                have hbW2 : Below w.heap.size w W2 := below_then hbW (by have := hX.lt; omega) hb2
                have o0 : W2.cell? ⟨w.heap.size + 1 + 1, 0, none⟩ = some (.int .i64 cur.T) := hO2.cell 0
                have f0 : W2.frozen? ⟨w.heap.size + 1 + 1, 0, none⟩ = false := hO2.frozen 0
                have o1 : W2.cell? ⟨w.heap.size + 1 + 1, 1, none⟩ = some (.int .i64 cur.V) := hO2.cell 1
                have f1 : W2.frozen? ⟨w.heap.size + 1 + 1, 1, none⟩ = false := hO2.frozen 1
                have o2 : W2.cell? ⟨w.heap.size + 1 + 1, 2, none⟩ = some (.int .i64 cur.K) := hO2.cell 2
                have f2 : W2.frozen? ⟨w.heap.size + 1 + 1, 2, none⟩ = false := hO2.frozen 2
                have o3 : W2.cell? ⟨w.heap.size + 1 + 1, 3, none⟩ = some (.int .i64 cur.L) := hO2.cell 3
                have f3 : W2.frozen? ⟨w.heap.size + 1 + 1, 3, none⟩ = false := hO2.frozen 3
                have r0 : W2.cell? ⟨w.heap.size + 1, 0, none⟩ = some (.int .i64 0) := hR2.cell 0
                have g0 : W2.frozen? ⟨w.heap.size + 1, 0, none⟩ = false := hR2.frozen 0
                have r1 : W2.cell? ⟨w.heap.size + 1, 1, none⟩ = some (.int .i64 0) := hR2.cell 1
                have g1 : W2.frozen? ⟨w.heap.size + 1, 1, none⟩ = false := hR2.frozen 1
                have r2 : W2.cell? ⟨w.heap.size + 1, 2, none⟩ = some (.int .i64 0) := hR2.cell 2
                have g2 : W2.frozen? ⟨w.heap.size + 1, 2, none⟩ = false := hR2.frozen 2
                have r3 : W2.cell? ⟨w.heap.size + 1, 3, none⟩ = some (.int .i64 0) := hR2.cell 3
                have g3 : W2.frozen? ⟨w.heap.size + 1, 3, none⟩ = false := hR2.frozen 3
                skip)
              have HE := hid (show strL V bs = cur from by rw [HF.out, show min 3 k + 1 - tN = (min 3 k + 1 - (tN + 1)) + 1 from by omega, strF, if_neg HC.out])
              refine bodyPost_ret (v := .tuple #[.agg #[.int .i64 cur.T, .int .i64 cur.V, .int .i64 cur.K, .int .i64 cur.L], .int .i64 cur.E]) (by simp [results, Tryd.results45, go_sem, r0, r1, r2, r3, g0, g1, g2, g3]) rfl ⟨by rw [HE.out], ?_⟩
              exact below_set4 hbW2 (by omega) _ _ _ _
          go_region_with (
            go_at_call 36
            rw [PF.out]
            refine (TH.out _ (hB.below (by repeat (first | exact hbw | refine below_drew ?_ | refine below_alloc ?_ _)))).mono ?_
            rintro e w' ⟨rfl, hb1⟩
            have q0 : w'.cell? ⟨w.heap.size, 0, none⟩ = some (.int .i64 V) := (hb1.cell (p := ⟨w.heap.size, 0, none⟩) (by first | exact hXl | (simp; omega))).trans (by first | exact x0 | exact (World.cell?_alloc_lt wr _ ⟨w.heap.size, 0, none⟩ hXl).trans x0)
            have q1 : w'.cell? ⟨w.heap.size, 1, none⟩ = some (.slice (some ad) bs.length c) := (hb1.cell (p := ⟨w.heap.size, 1, none⟩) (by first | exact hXl | (simp; omega))).trans (by first | exact x1 | exact (World.cell?_alloc_lt wr _ ⟨w.heap.size, 1, none⟩ hXl).trans x1)
            have hz1 : w.heap.size < w'.heap.size := by
              have := hb1.size
              simp at this
              omega
            try
              have hP : Blk w' wr.heap.size 26 #[.int .i64 0, .int .i64 0, .int .i64 0, .int .i64 0] := (hb1.block wr.heap.size (by simp)).trans (Blk.new wr 26 #[.int .i64 0, .int .i64 0, .int .i64 0, .int .i64 0])
              have p0 : w'.cell? ⟨wr.heap.size, 0, none⟩ = some (.int .i64 0) := hP.cell 0
              have p1 : w'.cell? ⟨wr.heap.size, 1, none⟩ = some (.int .i64 0) := hP.cell 1
              have p2 : w'.cell? ⟨wr.heap.size, 2, none⟩ = some (.int .i64 0) := hP.cell 2
              have p3 : w'.cell? ⟨wr.heap.size, 3, none⟩ = some (.int .i64 0) := hP.cell 3
              have f0 : w'.frozen? ⟨wr.heap.size, 0, none⟩ = false := hP.frozen 0
              have f1 : w'.frozen? ⟨wr.heap.size, 1, none⟩ = false := hP.frozen 1
              have f2 : w'.frozen? ⟨wr.heap.size, 2, none⟩ = false := hP.frozen 2
              have f3 : w'.frozen? ⟨wr.heap.size, 3, none⟩ = false := hP.frozen 3
              skip)
          all_goals
            have hX3 : Blk w' w.heap.size 31 #[.int .i64 V, .slice (some ad) bs.length c] := (hb1.block _ (by first | exact hXl | (simp; omega))).trans (by first | exact HX.out | exact HX.out.alloc _)
            have hR3 : Blk w' (w.heap.size + 1) 26 #[.int .i64 0, .int .i64 0, .int .i64 0, .int .i64 0] := (hb1.block _ (by first | exact hRl | (simp; omega))).trans (by first | exact HR.out | exact HR.out.alloc _)
            have hO3 : Blk w' (w.heap.size + 2) 26 #[.int .i64 cur.T, .int .i64 cur.V, .int .i64 cur.K, .int .i64 cur.L] := (hb1.block _ (by first | exact hOl | (simp; omega))).trans (by first | exact HO.out | exact HO.out.alloc _)
            have hbW3 : Below w.heap.size w w' := below_then (by repeat (first | exact hbw | refine below_drew ?_ | refine below_alloc ?_ _)) (by first | exact Nat.le_of_lt hXl | (simp; omega)) hb1
            have hw3 := hO3.lt
            show K _ _
            first
            | (have hP9 := hP.set4 (.int .i64 tN) (.int .i64 V) (.int .i64 k) (.int .i64 (thr bs (2 ^ tN - 1) : Nat))
               have a1 := hX3.far4 (k := wr.heap.size) (by omega) (.int .i64 tN) (.int .i64 V) (.int .i64 k) (.int .i64 (thr bs (2 ^ tN - 1) : Nat))
               have a2 := hR3.far4 (k := wr.heap.size) (by omega) (.int .i64 tN) (.int .i64 V) (.int .i64 k) (.int .i64 (thr bs (2 ^ tN - 1) : Nat))
               have a3 := hO3.far4 (k := wr.heap.size) (by omega) (.int .i64 tN) (.int .i64 V) (.int .i64 k) (.int .i64 (thr bs (2 ^ tN - 1) : Nat))
               have a4 := below_set4 (k := wr.heap.size) hbW3 (by omega) (.int .i64 tN) (.int .i64 V) (.int .i64 k) (.int .i64 (thr bs (2 ^ tN - 1) : Nat))
               with_reducible exact REST wr.heap.size _ _ _ a1 a2 a3 hP9 (by omega) a4)
            | with_reducible exact REST w'.heap.size _ _ _ (hX3.alloc _) (hR3.alloc _) (hO3.alloc _) (Blk.new _ _ _) (by omega) (below_alloc hbW3 _)
      · have HE := hid (show strL V bs = cur from by rw [HF.out, show min 3 k + 1 - tN = 0 from by omega, strF])
        have hgt : ¬ (tN : Int) ≤ min 3 (k : Int) := by omega
        have o0 : wr.cell? ⟨w.heap.size + 1 + 1, 0, none⟩ = some (.int .i64 cur.T) := hO.cell 0
        have o1 : wr.cell? ⟨w.heap.size + 1 + 1, 1, none⟩ = some (.int .i64 cur.V) := hO.cell 1
        have o2 : wr.cell? ⟨w.heap.size + 1 + 1, 2, none⟩ = some (.int .i64 cur.K) := hO.cell 2
        have o3 : wr.cell? ⟨w.heap.size + 1 + 1, 3, none⟩ = some (.int .i64 cur.L) := hO.cell 3
        have r0 : wr.cell? ⟨w.heap.size + 1, 0, none⟩ = some (.int .i64 0) := hR.cell 0
        have g0 : wr.frozen? ⟨w.heap.size + 1, 0, none⟩ = false := hR.frozen 0
        have r1 : wr.cell? ⟨w.heap.size + 1, 1, none⟩ = some (.int .i64 0) := hR.cell 1
        have g1 : wr.frozen? ⟨w.heap.size + 1, 1, none⟩ = false := hR.frozen 1
        have r2 : wr.cell? ⟨w.heap.size + 1, 2, none⟩ = some (.int .i64 0) := hR.cell 2
        have g2 : wr.frozen? ⟨w.heap.size + 1, 2, none⟩ = false := hR.frozen 2
        have r3 : wr.cell? ⟨w.heap.size + 1, 3, none⟩ = some (.int .i64 0) := hR.cell 3
        have g3 : wr.frozen? ⟨w.heap.size + 1, 3, none⟩ = false := hR.frozen 3
        clear hX hR hO
        go_wp2
        all_goals
          refine bodyPost_ret (v := .tuple #[.agg #[.int .i64 cur.T, .int .i64 cur.V, .int .i64 cur.K, .int .i64 cur.L], .int .i64 cur.E]) (by simp [results, Tryd.results45, go_sem, r0, r1, r2, r3, g0, g1, g2, g3]) rfl ⟨by rw [HE.out], ?_⟩
          exact below_set4 hbw (by omega) _ _ _ _
end Go.Proofs.YtoiahjncpngkeaaDoor
