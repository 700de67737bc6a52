/- plexuslaw42.EmbedThen's end, walked: what follows the two embeddings. -/
/- plexuslaw42.EmbedThen's middle, walked: two embeddings made. -/
/- plexuslaw42.EmbedThen, walked. -/
import Derived.Test.YtheclfjbedajfaaTq
import Derived.Test.YtheclfjbedajfaaRx
import Derived.Test.YtheclfjbedajfaaEy
import Derived.Deep.RegionHeld3
namespace Go.Proofs.Ytheclfjbedajfaa.Pd
set_option linter.unusedSimpArgs false
set_option linter.unusedVariables false
open Go.RowKit Go.Lib Go.Shelf Go.Proofs.YtheclfjbedajfaaW.PrintWords Go.Proofs.Ytheclfjbedajfaa Go.Proofs.YtheclfjbedajfaaW.PrintMore
attribute [local go_sem] Oper.semAt_some

abbrev tI : TypeId := 36
/-- The third structure lies in its cell. -/
def Cst (w4 : World) (gc : Nat) (wl : World) : Prop := Below w4.heap.size w4 wl ∧ ∃ (W : Nat) (X : List Nat) (XX : Option Addr) (cX : Nat), CpE W X ∧ Blk wl gc tI #[.int .i64 W, .slice XX (il X).length cX] ∧ (il X).length ≤ cX ∧ (Kd.int .u64).C wl XX (il X).length (il X)
/-- The code behind the n-th step. -/
def behind : Nat → Code → Code
  | n + 1, .seq _ b => behind n b
  | _, c => c
noncomputable def thenT2 : Code := behind 10 (Try.f6.body.getD .skip)
set_option maxHeartbeats 20000000 in
set_option maxRecDepth 100000 in
theorem then_t2 (x : Nat → Value) (w wq : World) (hbq : Below w.heap.size w wq) (gp gc ge gf V U W : Nat) (A X D G F2 F3 Fc : List Nat) (M2 M3 Mc M4 : List Int) (XA XX XD E1 E2 Z1 Z2 : Option Addr) (cA cX cD cE1 cE2 cZ1 cZ2 KK : Nat)
    (HP : Hid (∀ W', Below wq.heap.size wq W' → W'.cell? ⟨gp, 0, none⟩ = some (.int .i64 V) ∧ W'.cell? ⟨gp, 1, none⟩ = some (.slice XA (il A).length cA)))
    (HCX : Hid (∀ W', Below wq.heap.size wq W' → W'.cell? ⟨gc, 0, none⟩ = some (.int .i64 W) ∧ W'.cell? ⟨gc, 1, none⟩ = some (.slice XX (il X).length cX) ∧ (Kd.int .u64).C W' XX (il X).length (il X)))
    (HA4 : Hid (∀ W', Below wq.heap.size wq W' → (Kd.int .u64).C W' XA (il A).length (il A)))
    (HE : Hid (∀ W', Below wq.heap.size wq W' → W'.cell? ⟨ge, 0, none⟩ = some (.slice E1 (il F2).length cE1) ∧ W'.cell? ⟨ge, 1, none⟩ = some (.slice E2 M2.length cE2) ∧ W'.cell? ⟨ge, 2, none⟩ = some (.int .i64 0)))
    (HIE : Hid (∀ W', Below wq.heap.size wq W' → IC W' E1 (il F2).length (il F2) ∧ IC W' E2 M2.length M2)) (HID : Hid (∀ W', Below wq.heap.size wq W' → IC W' XD (il D).length (il D)))
    (kf : Blk wq gf tG #[.slice Z1 (il G).length cZ1, .slice Z2 M3.length cZ2, .int .i64 0]) (IZ1 : IC wq Z1 (il G).length (il G)) (IZ2 : IC wq Z2 M3.length M3)
    (hcA : (il A).length ≤ cA) (hcX : (il X).length ≤ cX) (hcD : (il D).length ≤ cD) (hcE1 : (il F2).length ≤ cE1) (hcE2 : M2.length ≤ cE2) (hcZ1 : (il G).length ≤ cZ1) (hcZ2 : M3.length ≤ cZ2)
    (t3 : plexuslaw42_then.f KK (il F2) M2 (il G) M3 = some (il Fc, Mc, 0)) (b4 : plexuslaw42_best.f V (il A) W (il X) (il D) = some (il F3, M4, 0)) (ck : embed_Check.f KK V (il A) W (il X) (il Fc) Mc = some 0)
    (hDl1 : (il D).length < 1000) (hMc1 : Mc.length < 1000) (hM41 : M4.length < 1000) (hle : (keptL Mc (il D)).length ≤ (keptL M4 (il D)).length) :
    Code.wp Try.prog thenT2 (bodyPost Try.prog Try.f6 fun e w' => e = .returned (.bool true) ∧ Below w.heap.size w w') { tmps := #[x 0, x 1, x 2, x 3, x 4, x 5, x 6, .bool true, .pointer (some ⟨gp, 0, none⟩), .pointer (some ⟨gc, 0, none⟩), .slice XD (il D).length cD, .pointer (some ⟨ge, 0, none⟩), .pointer (some ⟨gf, 0, none⟩), x 13, x 14, x 15, x 16, x 17, x 18, x 19, x 20, x 21, x 22, x 23, x 24, x 25, x 26, x 27, x 28, x 29, x 30, x 31, x 32, x 33, x 34, x 35, x 36, x 37, x 38, x 39, x 40, x 41, x 42, x 43, x 44, x 45, x 46, x 47, x 48, x 49, x 50, x 51, x 52, x 53, x 54, x 55, x 56, x 57, x 58, x 59, x 60, x 61, x 62, x 63, x 64, x 65, x 66, x 67, x 68, x 69, x 70, x 71, x 72, x 73, x 74, x 75, x 76, x 77, x 78, x 79, x 80, x 81, x 82, x 83, x 84, x 85, x 86, x 87, x 88, x 89, x 90, x 91, x 92, x 93, x 94, x 95, x 96, x 97, x 98, x 99, x 100, x 101, x 102, x 103, x 104, x 105, x 106, x 107, x 108, x 109, x 110, x 111, x 112, x 113, x 114, x 115, x 116, x 117, x 118, x 119, x 120, x 121, x 122, x 123, x 124, x 125, x 126, x 127, x 128, x 129, x 130, x 131, x 132], defers := [] } wq := by
  have hue := Try.underlying29
  have hui := Try.underlying36
  have hug := Try.underlying47
  have hup := Try.underlying38
  generalize hQ : bodyPost Try.prog _ _ = Q
  delta thenT2 Try.f6
  dsimp only [behind, Option.getD]
  have HF := hid (fun W' (hb : Below wq.heap.size wq W') => (show W'.cell? ⟨gf, 0, none⟩ = some (.slice Z1 (il G).length cZ1) ∧ W'.cell? ⟨gf, 1, none⟩ = some (.slice Z2 M3.length cZ2) ∧ W'.cell? ⟨gf, 2, none⟩ = some (.int .i64 0) from by
    have k := kf.below hb kf.lt
    exact ⟨(k.cell 0).trans rfl, (k.cell 1).trans rfl, (k.cell 2).trans rfl⟩))
  obtain ⟨p0, p1, p2⟩ := HE.out _ (Below.refl _ _)
  obtain ⟨r0, r1, r2⟩ := HF.out _ (Below.refl _ _)
  have THEN := hid (plexuslaw42_then.calls KK E1 cE1 (il F2) E2 cE2 M2 Z1 cZ1 (il G) Z2 cZ2 M3 (il Fc) Mc 0 wq (HIE.out _ (Below.refl _ _)).1 hcE1 (HIE.out _ (Below.refl _ _)).2 hcE2 IZ1 hcZ1 IZ2 hcZ2 t3)
  go_upto_region 14 with (go_at_call 21; refine THEN.out.mono ?_; rintro e w10 ⟨v1, v2, rfl, hr1, hr2, hb10⟩; obtain ⟨G1, cG1, rfl, hcG1, IG1⟩ := Kd.R_reads hr1; obtain ⟨G2, cG2, rfl, hcG2, IG2⟩ := Kd.R_reads hr2; clear hr1 hr2 p0 p1 p2 r0 r1 r2)
  obtain ⟨w11, hw11⟩ : ∃ w11, w10.alloc (.cells #[.slice G1 (il Fc).length cG1, .slice G2 Mc.length cG2, .int .i64 0] tG) = w11 := ⟨_, rfl⟩
  have hb1011 : Below w10.heap.size w10 w11 := by rw [← hw11]; exact below_alloc (Below.refl _ _) _
  have hbq11 : Below wq.heap.size wq w11 := below_then hb10 hb10.size hb1011
  have kg : Blk w11 w10.heap.size tG #[.slice G1 (il Fc).length cG1, .slice G2 Mc.length cG2, .int .i64 0] := by rw [← hw11]; exact Blk.new _ _ _
  obtain ⟨gg, hgg⟩ : ∃ gg, w10.heap.size = gg := ⟨_, rfl⟩
  rw [hw11]
  rw [hgg] at kg ⊢
  have HG := hid (fun W' (hb : Below w11.heap.size w11 W') => (show (W'.cell? ⟨gg, 0, none⟩ = some (.slice G1 (il Fc).length cG1) ∧ W'.cell? ⟨gg, 1, none⟩ = some (.slice G2 Mc.length cG2) ∧ W'.cell? ⟨gg, 2, none⟩ = some (.int .i64 0)) ∧ IC W' G1 (il Fc).length (il Fc) ∧ IC W' G2 Mc.length Mc from by
    have k := kg.below hb kg.lt
    exact ⟨⟨(k.cell 0).trans rfl, (k.cell 1).trans rfl, (k.cell 2).trans rfl⟩, Kd.C_below (Kd.C_below IG1 hb1011) hb, Kd.C_below (Kd.C_below IG2 hb1011) hb⟩))
  clear hw11 kg hgg IG1 IG2 IZ1 IZ2 THEN hb10 hb1011 t3 kf
  obtain ⟨p0, p1⟩ := HP.out _ hbq11
  obtain ⟨r0, r1, r2⟩ := HCX.out _ hbq11
  have BEST := hid (plexuslaw42_best.calls V XA cA (il A) W XX cX (il X) XD cD (il D) (il F3) M4 0 w11 (HA4.out _ hbq11) hcA r2 hcX (HID.out _ hbq11) hcD b4)
  clear r2
  go_upto_region 15 with (go_at_call 15; refine BEST.out.mono ?_; rintro e w12 ⟨v1, v2, rfl, hr1, hr2, hb12⟩; obtain ⟨Q1, cQ1, rfl, hcQ1, IQ1⟩ := Kd.R_reads hr1; obtain ⟨Q2, cQ2, rfl, hcQ2, IQ2⟩ := Kd.R_reads hr2; clear hr1 hr2 p0 p1 r0 r1)
  obtain ⟨w13, hw13⟩ : ∃ w13, w12.alloc (.cells #[.slice Q1 (il F3).length cQ1, .slice Q2 M4.length cQ2, .int .i64 0] tG) = w13 := ⟨_, rfl⟩
  have hb1213 : Below w12.heap.size w12 w13 := by rw [← hw13]; exact below_alloc (Below.refl _ _) _
  have hb1113 : Below w11.heap.size w11 w13 := below_then hb12 hb12.size hb1213
  have hbq13 : Below wq.heap.size wq w13 := below_then hbq11 hbq11.size hb1113
  have kh : Blk w13 w12.heap.size tG #[.slice Q1 (il F3).length cQ1, .slice Q2 M4.length cQ2, .int .i64 0] := by rw [← hw13]; exact Blk.new _ _ _
  obtain ⟨gh, hgh⟩ : ∃ gh, w12.heap.size = gh := ⟨_, rfl⟩
  rw [hw13]
  rw [hgh] at kh ⊢
  obtain ⟨n1, hn1⟩ : ∃ n1, (keptL Mc (il D)).length = n1 := ⟨_, rfl⟩
  obtain ⟨n2, hn2⟩ : ∃ n2, (keptL M4 (il D)).length = n2 := ⟨_, rfl⟩
  have hn12 : (n1 : Int) ≤ (n2 : Int) := by rw [← hn1, ← hn2]; omega
  have hn12' : n1 ≤ n2 := by omega
  have hn12d : decide ((n1 : Int) ≤ (n2 : Int)) = true := by simp [hn12]
  replace hn1 := hid hn1
  replace hn2 := hid hn2
  have HE2 := hid (fun W' (hb : Below w13.heap.size w13 W') => (HE.out W' (below_then hbq13 hbq13.size hb)).2.2)
  have HF2 := hid (fun W' (hb : Below w13.heap.size w13 W') => (HF.out W' (below_then hbq13 hbq13.size hb)).2.2)
  have HG3 := hid (fun W' (hb : Below w13.heap.size w13 W') => (HG.out W' (below_then hb1113 hb1113.size hb)).1)
  have HH3 := hid (fun W' (hb : Below w13.heap.size w13 W') => (show W'.cell? ⟨gh, 0, none⟩ = some (.slice Q1 (il F3).length cQ1) ∧ W'.cell? ⟨gh, 1, none⟩ = some (.slice Q2 M4.length cQ2) ∧ W'.cell? ⟨gh, 2, none⟩ = some (.int .i64 0) from by
    have k := kh.below hb kh.lt
    exact ⟨(k.cell 0).trans rfl, (k.cell 1).trans rfl, (k.cell 2).trans rfl⟩))
  have HP2 := hid (fun W' (hb : Below w13.heap.size w13 W') => (show W'.cell? ⟨gp, 0, none⟩ = some (.int .i64 V) ∧ W'.cell? ⟨gp, 1, none⟩ = some (.slice XA (il A).length cA) from by
    obtain ⟨q0, q1⟩ := HP.out W' (below_then hbq13 hbq13.size hb)
    exact ⟨q0, q1⟩))
  have HX2 := hid (fun W' (hb : Below w13.heap.size w13 W') => (show W'.cell? ⟨gc, 0, none⟩ = some (.int .i64 W) ∧ W'.cell? ⟨gc, 1, none⟩ = some (.slice XX (il X).length cX) from by
    obtain ⟨q0, q1, _⟩ := HCX.out W' (below_then hbq13 hbq13.size hb)
    exact ⟨q0, q1⟩))
  have CHK := hid (fun W' (hb : Below w13.heap.size w13 W') => embed_Check.calls KK V XA cA (il A) W XX cX (il X) G1 cG1 (il Fc) G2 cG2 Mc 0 W' (HA4.out _ (below_then hbq13 hbq13.size hb)) hcA (HCX.out _ (below_then hbq13 hbq13.size hb)).2.2 hcX (HG.out _ (below_then hb1113 hb1113.size hb)).2.1 hcG1 (HG.out _ (below_then hb1113 hb1113.size hb)).2.2 hcG2 ck)
  have KE1 := hid (fun W' (hb : Below w13.heap.size w13 W') => embed_Kept.calls G1 cG1 (il Fc) G2 cG2 Mc XD cD (il D) (keptL Mc (il D)) W' (HG.out _ (below_then hb1113 hb1113.size hb)).2.1 hcG1 (HG.out _ (below_then hb1113 hb1113.size hb)).2.2 hcG2 (HID.out _ (below_then hbq13 hbq13.size hb)) hcD (kept_fE hMc1 hDl1))
  have KE2 := hid (fun W' (hb : Below w13.heap.size w13 W') => embed_Kept.calls Q1 cQ1 (il F3) Q2 cQ2 M4 XD cD (il D) (keptL M4 (il D)) W' (Kd.C_below (Kd.C_below IQ1 hb1213) hb) hcQ1 (Kd.C_below (Kd.C_below IQ2 hb1213) hb) hcQ2 (HID.out _ (below_then hbq13 hbq13.size hb)) hcD (kept_fE hM41 hDl1))
  have hb013 := hbq13
  clear hw13 kh hgh IQ1 IQ2 BEST hb12 hb1213 hb1113 hbq13 b4 HE HF HG HP HCX HID HIE HA4 ck hle
  have HALL := hid (fun W' (hb : Below w13.heap.size w13 W') => (show Below w13.heap.size w13 W' ∧ W'.cell? ⟨ge, 2, none⟩ = some (.int .i64 0) ∧ W'.cell? ⟨gf, 2, none⟩ = some (.int .i64 0) ∧ W'.cell? ⟨gg, 0, none⟩ = some (.slice G1 (il Fc).length cG1) ∧ W'.cell? ⟨gg, 1, none⟩ = some (.slice G2 Mc.length cG2) ∧ W'.cell? ⟨gg, 2, none⟩ = some (.int .i64 0) ∧ W'.cell? ⟨gh, 0, none⟩ = some (.slice Q1 (il F3).length cQ1) ∧ W'.cell? ⟨gh, 1, none⟩ = some (.slice Q2 M4.length cQ2) ∧ W'.cell? ⟨gh, 2, none⟩ = some (.int .i64 0) ∧ W'.cell? ⟨gp, 0, none⟩ = some (.int .i64 V) ∧ W'.cell? ⟨gp, 1, none⟩ = some (.slice XA (il A).length cA) ∧ W'.cell? ⟨gc, 0, none⟩ = some (.int .i64 W) ∧ W'.cell? ⟨gc, 1, none⟩ = some (.slice XX (il X).length cX) from ⟨hb, HE2.out _ hb, HF2.out _ hb, (HG3.out _ hb).1, (HG3.out _ hb).2.1, (HG3.out _ hb).2.2, (HH3.out _ hb).1, (HH3.out _ hb).2.1, (HH3.out _ hb).2.2, (HP2.out _ hb).1, (HP2.out _ hb).2, (HX2.out _ hb).1, (HX2.out _ hb).2⟩))
  have HB13 := Below.refl w13.heap.size w13
  clear HE2 HF2 HG3 HH3 HP2 HX2
  go_region_held3 (fun W' => Below w13.heap.size w13 W' ∧ W'.cell? ⟨ge, 2, none⟩ = some (.int .i64 0) ∧ W'.cell? ⟨gf, 2, none⟩ = some (.int .i64 0) ∧ W'.cell? ⟨gg, 0, none⟩ = some (.slice G1 (il Fc).length cG1) ∧ W'.cell? ⟨gg, 1, none⟩ = some (.slice G2 Mc.length cG2) ∧ W'.cell? ⟨gg, 2, none⟩ = some (.int .i64 0) ∧ W'.cell? ⟨gh, 0, none⟩ = some (.slice Q1 (il F3).length cQ1) ∧ W'.cell? ⟨gh, 1, none⟩ = some (.slice Q2 M4.length cQ2) ∧ W'.cell? ⟨gh, 2, none⟩ = some (.int .i64 0) ∧ W'.cell? ⟨gp, 0, none⟩ = some (.int .i64 V) ∧ W'.cell? ⟨gp, 1, none⟩ = some (.slice XA (il A).length cA) ∧ W'.cell? ⟨gc, 0, none⟩ = some (.int .i64 W) ∧ W'.cell? ⟨gc, 1, none⟩ = some (.slice XX (il X).length cX)) (first | exact HALL.out _ (by assumption) | exact HALL.out _ (below_drew (And.left (by assumption))) | exact HALL.out _ (below_drew (by assumption)))
    (first
    | (go_at_call 16; refine (CHK.out _ (And.left (by assumption))).mono ?_; rintro e w14 ⟨rfl, hb14⟩; replace hb14 := bt (And.left (by assumption)) hb14)
    | (go_at_call_of 19 (Value.agg #[.slice G1 (il Fc).length cG1, .slice G2 Mc.length cG2]); refine (KE1.out _ (And.left (by assumption))).mono ?_; rintro e w15 ⟨v, rfl, hr, hb15⟩; obtain ⟨A15, c15, e15⟩ := Kd.R_slice hr; rw [hn1.out] at e15; subst e15; replace hb15 := bt (And.left (by assumption)) hb15; clear hr)
    | (go_at_call 19; refine (KE2.out _ (And.left (by assumption))).mono ?_; rintro e w16 ⟨v, rfl, hr, hb16⟩; obtain ⟨A16, c16, e16⟩ := Kd.R_slice hr; rw [hn2.out] at e16; subst e16; replace hb16 := bt (And.left (by assumption)) hb16; clear hr))
  have hbz : Below w13.heap.size w13 w16 := And.left (by assumption)
  go_wp2
  subst hQ
  go_ret
  exact ⟨rfl, below_then hbq (Below.size hbq) (below_then hb013 hb013.size hbz)⟩
end Go.Proofs.Ytheclfjbedajfaa.Pd


namespace Go.Proofs.Ytheclfjbedajfaa.Pd
set_option linter.unusedSimpArgs false
set_option linter.unusedVariables false
open Go.RowKit Go.Lib Go.Shelf Go.Proofs.YtheclfjbedajfaaW.PrintWords Go.Proofs.Ytheclfjbedajfaa Go.Proofs.YtheclfjbedajfaaW.PrintMore
attribute [local go_sem] Oper.semAt_some

theorem ic_takeT {w : World} {A : Option Addr} {n k : Nat} {xs : List Nat} (h : IC w A n (il xs)) (hk : k ≤ n) : IC w A k (il (xs.take k)) := by
  have h2 := (Kd.C_of_reads (h1 := fun _ => rfl) ((Kd.reads_of_C (enc := Value.int .i64) (d := (0 : Int)) (h1 := fun _ => rfl) h).take_ k hk) : (Kd.int .i64).C w A k ((il xs).take k))
  rwa [show il (xs.take k) = (il xs).take k from by simp [il, List.map_take]]
/-- What stands while region 7 is carried out in any order. -/
structure S7 (w4 w6 : World) (gc U : Nat) (ls X2 : List Nat) (L : Nat → Bool) (w : World) (y10 y11 y12 y13 : Value) : Prop where
  bel : Below w4.heap.size w4 w
  near : L 14 = false → Below w6.heap.size w6 w
  h10 : L 10 = true → L 14 = false → ∃ A c, y10 = .slice A U c ∧ U ≤ c ∧ IC w A U (il (shL ls U))
  h11 : L 11 = true → L 10 = true ∧ ∃ v, y11 = .agg #[.int .i64 U, v] ∧ Kd.R (Kd.int .u64) 60 w w6.heap.size (fun _ => True) v (il X2)
  h12 : L 12 = true → L 11 = true ∧ y11 = .agg #[.int .i64 U, y12]
  h13 : L 13 = true → L 12 = true ∧ y13 = .agg #[.int .i64 U, y12]
  h14 : L 14 = true → L 13 = true ∧ Blk w gc tI #[.int .i64 U, y12]
section
variable {w4 w6 w w' : World} {gc U : Nat} {ls X2 : List Nat} {L : Nat → Bool} {y10 y11 y12 y13 v : Value}
theorem p1neT {i j : Nat} (h : j ≠ i) : put1 L i j = L j := by simp [put1, h]
theorem rU_setT {B g t i : Nat} {w : World} {v : Value} {xs : List Int} {cs : Array Value} (h : Kd.R (Kd.int .u64) 60 w B (fun _ => True) v xs) (hb : Blk w g t cs) (ht : 60 ≠ t) (u : Value) : Kd.R (Kd.int .u64) 60 (w.setCell ⟨g, i, none⟩ u) B (fun _ => True) v xs := by
  have h' : Kd.R (Kd.int .u64) 60 w B (fun k => k ≠ g) v xs := ⟨fun k hk e => Kd.R_ne h hb ht (by rw [hk, e]), h.2⟩
  exact Kd.R_mono (Kd.R_keep h' ((KeepBut.refl _ _ _).set_ i u) (fun k h => h)) (fun _ _ => trivial)
theorem S7.q (h : S7 w4 w6 gc U ls X2 L w y10 y11 y12 y13) (i : Nat) (hi : i < 10) : S7 w4 w6 gc U ls X2 (put1 L i) w y10 y11 y12 y13 := by
  have e : ∀ j, 10 ≤ j → put1 L i j = L j := fun j hj => p1neT (by omega)
  refine ⟨h.bel, ?_, ?_, ?_, ?_, ?_, ?_⟩
  · rw [e 14 (by omega)]; exact h.near
  · rw [e 10 (by omega), e 14 (by omega)]; exact h.h10
  · rw [e 11 (by omega), e 10 (by omega)]; exact h.h11
  · rw [e 12 (by omega), e 11 (by omega)]; exact h.h12
  · rw [e 13 (by omega), e 12 (by omega)]; exact h.h13
  · rw [e 14 (by omega), e 13 (by omega)]; exact h.h14
theorem S7.no (h : S7 w4 w6 gc U ls X2 L w y10 y11 y12 y13) : (L 10 = false → L 11 = false) ∧ (L 11 = false → L 12 = false) ∧ (L 12 = false → L 13 = false) ∧ (L 13 = false → L 14 = false) := by
  refine ⟨fun f => ?_, fun f => ?_, fun f => ?_, fun f => ?_⟩
  · cases e : L 11
    · rfl
    · have := (h.h11 e).1; rw [f] at this; cases this
  · cases e : L 12
    · rfl
    · have := (h.h12 e).1; rw [f] at this; cases this
  · cases e : L 13
    · rfl
    · have := (h.h13 e).1; rw [f] at this; cases this
  · cases e : L 14
    · rfl
    · have := (h.h14 e).1; rw [f] at this; cases this
theorem nt {b : Bool} {p : Prop} (f : b = false) (e : b = true) : p := by rw [f] at e; cases e
theorem S7.call10 (h : S7 w4 w6 gc U ls X2 L w y10 y11 y12 y13) (hf : L 10 = false) (hb : Below w.heap.size w w') {B : Nat} (ho : w'.ownsRow B 3 1 v U (nums .i64 (il (shL ls U)))) : S7 w4 w6 gc U ls X2 (put1 L 10) w' v y11 y12 y13 := by
  obtain ⟨a, b, c, d⟩ := h.no
  obtain ⟨A, c', e9, h1, _, h2⟩ := own_IC ho
  have n14 := h.near (d (c (b (a hf))))
  exact ⟨below_then h.bel h.bel.size hb, fun _ => below_then n14 n14.size hb, fun _ _ => ⟨A, c', e9, h1, h2⟩, fun e => nt (a hf) e, fun e => nt (b (a hf)) e, fun e => nt (c (b (a hf))) e, fun e => nt (d (c (b (a hf)))) e⟩
theorem S7.call11 (h : S7 w4 w6 gc U ls X2 L w y10 y11 y12 y13) (hf : L 11 = false) (d10 : L 10 = true) (hb : Below w.heap.size w w') (hr : Kd.R (Kd.int .u64) 60 w' w.heap.size (fun _ => True) v (il X2)) : S7 w4 w6 gc U ls X2 (put1 L 11) w' y10 (.agg #[.int .i64 U, v]) y12 y13 := by
  obtain ⟨a, b, c, d⟩ := h.no
  have n14 := h.near (d (c (b hf)))
  exact ⟨below_then h.bel h.bel.size hb, fun _ => below_then n14 n14.size hb, fun e e' => (by obtain ⟨A, c', e9, h1, h2⟩ := h.h10 d10 e'; exact ⟨A, c', e9, h1, Kd.C_below h2 hb⟩), fun _ => ⟨d10, v, rfl, Kd.R_lower hr n14.size⟩, fun e => nt (b hf) e, fun e => nt (c (b hf)) e, fun e => nt (d (c (b hf))) e⟩
theorem S7.op12 (h : S7 w4 w6 gc U ls X2 L w y10 y11 y12 y13) (hf : L 12 = false) (d11 : L 11 = true) (e11 : y11 = .agg #[.int .i64 U, v]) : S7 w4 w6 gc U ls X2 (put1 L 12) w y10 y11 v y13 := by
  obtain ⟨a, b, c, d⟩ := h.no
  exact ⟨h.bel, h.near, h.h10, h.h11, fun _ => ⟨d11, e11⟩, fun e => nt (c hf) e, fun e => nt (d (c hf)) e⟩
theorem S7.op13 (h : S7 w4 w6 gc U ls X2 L w y10 y11 y12 y13) (hf : L 13 = false) (d12 : L 12 = true) : S7 w4 w6 gc U ls X2 (put1 L 13) w y10 y11 y12 (.agg #[.int .i64 U, y12]) := by
  obtain ⟨a, b, c, d⟩ := h.no
  exact ⟨h.bel, h.near, h.h10, h.h11, h.h12, fun _ => ⟨d12, rfl⟩, fun e => nt (d hf) e⟩
theorem S7.sl (h : S7 w4 w6 gc U ls X2 L w y10 y11 y12 y13) (d : L 12 = true) : ∃ A c, y12 = .slice A (il X2).length c ∧ Kd.R (Kd.int .u64) 60 w w6.heap.size (fun _ => True) y12 (il X2) := by
  obtain ⟨d11, e12⟩ := h.h12 d
  obtain ⟨_, v, e11, hr⟩ := h.h11 d11
  rw [e11] at e12
  have e : v = y12 := by simpa using e12
  subst e
  obtain ⟨A, c, e⟩ := Kd.R_slice hr
  exact ⟨A, c, e, hr⟩
theorem S7.store14 (h : S7 w4 w6 gc U ls X2 L w y10 y11 y12 y13) (d13 : L 13 = true) (hg : w4.heap.size ≤ gc) {u0 u1 : Value} (hb : Blk w gc tI #[u0, u1]) :
    S7 w4 w6 gc U ls X2 (put1 L 14) ((w.setCell ⟨gc, 0, none⟩ (.int .i64 U)).setCell ⟨gc, 1, none⟩ y12) y10 y11 y12 y13 :=
  ⟨(h.bel.setCell (p := ⟨gc, 0, none⟩) hg _).setCell (p := ⟨gc, 1, none⟩) hg _, fun e => (nomatch e), fun _ e => (nomatch e), fun e => (by obtain ⟨e1, v, e2, hr⟩ := h.h11 e; exact ⟨e1, v, e2, rU_setT (rU_setT hr hb (by decide) _) (hb.set_ 0 _) (by decide) _⟩), h.h12, h.h13, fun _ => ⟨d13, by
    have := (hb.set_ 0 (.int .i64 U)).set_ 1 y12
    simpa using this⟩⟩
end
/-- What stands while region 12 is carried out in any order. -/
structure S12 (w9 : World) (U W : Nat) (v8 : Value) (ls : List Nat) (xs ms : List Int) (L : Nat → Bool) (w : World) (y7 y8 y9 y10 y11 y12 y13 y14 : Value) : Prop where
  bel : Below w9.heap.size w9 w
  h7 : L 7 = true → ∃ A c, y7 = .slice A W c ∧ W ≤ c ∧ (L 15 = false → IC w A W (il (shL ls W)))
  h8 : L 8 = true → y8 = v8
  h9 : L 9 = true → y9 = v8
  h10 : L 10 = true → y10 = .int .i64 U
  h11 : L 11 = true → L 7 = true ∧ ∃ A c, y11 = .slice A U c ∧ U ≤ c ∧ (L 15 = false → IC w A U (il ((shL ls W).take U)))
  h12 : L 12 = true → L 11 = true ∧ y12 = .agg #[y11, .slice none 0 0]
  h13 : L 13 = true → L 12 = true ∧ isG w9.heap.size w xs ms y13
  h14 : L 14 = true → isP w9.heap.size w (L 15) y13 y14
  d15 : L 15 = true → L 13 = true ∧ L 14 = true
section
variable {w9 w w' : World} {U W : Nat} {v8 v : Value} {ls : List Nat} {xs ms : List Int} {L : Nat → Bool} {y7 y8 y9 y10 y11 y12 y13 y14 : Value}
theorem S12.q (h : S12 w9 U W v8 ls xs ms L w y7 y8 y9 y10 y11 y12 y13 y14) (i : Nat) (hi : i < 7) : S12 w9 U W v8 ls xs ms (put1 L i) w y7 y8 y9 y10 y11 y12 y13 y14 := by
  have e : ∀ j, 7 ≤ j → put1 L i j = L j := fun j hj => p1neT (by omega)
  refine ⟨h.bel, ?_, ?_, ?_, ?_, ?_, ?_, ?_, ?_, ?_⟩
  · rw [e 7 (by omega), e 15 (by omega)]; exact h.h7
  · rw [e 8 (by omega)]; exact h.h8
  · rw [e 9 (by omega)]; exact h.h9
  · rw [e 10 (by omega)]; exact h.h10
  · rw [e 11 (by omega), e 7 (by omega), e 15 (by omega)]; exact h.h11
  · rw [e 12 (by omega), e 11 (by omega)]; exact h.h12
  · rw [e 13 (by omega), e 12 (by omega)]; exact h.h13
  · rw [e 14 (by omega), e 15 (by omega)]; exact h.h14
  · rw [e 15 (by omega), e 13 (by omega), e 14 (by omega)]; exact h.d15
theorem S12.no (h : S12 w9 U W v8 ls xs ms L w y7 y8 y9 y10 y11 y12 y13 y14) : (L 7 = false → L 11 = false) ∧ (L 11 = false → L 12 = false) ∧ (L 12 = false → L 13 = false) ∧ (L 13 = false → L 15 = false) ∧ (L 14 = false → L 15 = false) := by
  refine ⟨fun f => ?_, fun f => ?_, fun f => ?_, fun f => ?_, fun f => ?_⟩
  · cases e : L 11
    · rfl
    · exact nt f (h.h11 e).1
  · cases e : L 12
    · rfl
    · exact nt f (h.h12 e).1
  · cases e : L 13
    · rfl
    · exact nt f (h.h13 e).1
  · cases e : L 15
    · rfl
    · exact nt f (h.d15 e).1
  · cases e : L 15
    · rfl
    · exact nt f (h.d15 e).2
theorem S12.go (h : S12 w9 U W v8 ls xs ms L w y7 y8 y9 y10 y11 y12 y13 y14) (hb : Below w.heap.size w w') : S12 w9 U W v8 ls xs ms L w' y7 y8 y9 y10 y11 y12 y13 y14 :=
  ⟨below_then h.bel h.bel.size hb, fun e => (by obtain ⟨A, c, h1, h2, h3⟩ := h.h7 e; exact ⟨A, c, h1, h2, fun e' => Kd.C_below (h3 e') hb⟩), h.h8, h.h9, h.h10,
    fun e => (by obtain ⟨h0, A, c, h1, h2, h3⟩ := h.h11 e; exact ⟨h0, A, c, h1, h2, fun e' => Kd.C_below (h3 e') hb⟩), h.h12, fun e => ⟨(h.h13 e).1, (h.h13 e).2.below hb⟩, fun e => (h.h14 e).below hb, h.d15⟩
theorem S12.call7 (h : S12 w9 U W v8 ls xs ms L w y7 y8 y9 y10 y11 y12 y13 y14) (hf : L 7 = false) (hb : Below w.heap.size w w') {B : Nat} (ho : w'.ownsRow B 3 1 v W (nums .i64 (il (shL ls W)))) : S12 w9 U W v8 ls xs ms (put1 L 7) w' v y8 y9 y10 y11 y12 y13 y14 := by
  obtain ⟨a, b, c, d, _⟩ := h.no
  obtain ⟨A, c', e9, h1, _, h2⟩ := own_IC ho
  have q := h.go hb
  exact ⟨q.bel, fun _ => ⟨A, c', e9, h1, fun _ => h2⟩, q.h8, q.h9, q.h10, fun e => nt (a hf) e, q.h12, q.h13, q.h14, q.d15⟩
theorem S12.op8 (h : S12 w9 U W v8 ls xs ms L w y7 y8 y9 y10 y11 y12 y13 y14) : S12 w9 U W v8 ls xs ms (put1 L 8) w y7 v8 y9 y10 y11 y12 y13 y14 := ⟨h.bel, h.h7, fun _ => rfl, h.h9, h.h10, h.h11, h.h12, h.h13, h.h14, h.d15⟩
theorem S12.op9 (h : S12 w9 U W v8 ls xs ms L w y7 y8 y9 y10 y11 y12 y13 y14) : S12 w9 U W v8 ls xs ms (put1 L 9) w y7 y8 v8 y10 y11 y12 y13 y14 := ⟨h.bel, h.h7, h.h8, fun _ => rfl, h.h10, h.h11, h.h12, h.h13, h.h14, h.d15⟩
theorem S12.op10 (h : S12 w9 U W v8 ls xs ms L w y7 y8 y9 y10 y11 y12 y13 y14) : S12 w9 U W v8 ls xs ms (put1 L 10) w y7 y8 y9 (.int .i64 U) y11 y12 y13 y14 := ⟨h.bel, h.h7, h.h8, h.h9, fun _ => rfl, h.h11, h.h12, h.h13, h.h14, h.d15⟩
theorem S12.op11 (h : S12 w9 U W v8 ls xs ms L w y7 y8 y9 y10 y11 y12 y13 y14) (hf : L 11 = false) (d7 : L 7 = true) {A : Option Addr} {c : Nat} (e7 : y7 = .slice A W c) (hUW : U ≤ W) : S12 w9 U W v8 ls xs ms (put1 L 11) w y7 y8 y9 y10 (.slice A U c) y12 y13 y14 := by
  obtain ⟨a, b, c', d, _⟩ := h.no
  refine ⟨h.bel, h.h7, h.h8, h.h9, h.h10, fun _ => ⟨d7, A, c, rfl, ?_, fun e' => ?_⟩, fun e => nt (b hf) e, h.h13, h.h14, h.d15⟩
  · obtain ⟨A', c2, e', h1, _⟩ := h.h7 d7; rw [e7] at e'; injection e' with _ _ e'; omega
  · obtain ⟨A', c2, e2, _, h2⟩ := h.h7 d7; rw [e7] at e2; injection e2 with e1 _ _; subst e1; exact ic_takeT (h2 e') hUW
theorem S12.op12 (h : S12 w9 U W v8 ls xs ms L w y7 y8 y9 y10 y11 y12 y13 y14) (hf : L 12 = false) (d11 : L 11 = true) : S12 w9 U W v8 ls xs ms (put1 L 12) w y7 y8 y9 y10 y11 (.agg #[y11, .slice none 0 0]) y13 y14 := by
  obtain ⟨a, b, c', d, _⟩ := h.no
  exact ⟨h.bel, h.h7, h.h8, h.h9, h.h10, h.h11, fun _ => ⟨d11, rfl⟩, fun e => nt (c' hf) e, h.h14, h.d15⟩
theorem S12.call13 (h : S12 w9 U W v8 ls xs ms L w y7 y8 y9 y10 y11 y12 y13 y14) (hf : L 13 = false) (d12 : L 12 = true) (hb : Below w.heap.size w w') (hv : isG w9.heap.size w' xs ms v) : S12 w9 U W v8 ls xs ms (put1 L 13) w' y7 y8 y9 y10 y11 y12 v y14 := by
  obtain ⟨a, b, c', d, _⟩ := h.no
  have q := h.go hb
  exact ⟨q.bel, q.h7, q.h8, q.h9, q.h10, q.h11, q.h12, fun _ => ⟨d12, hv⟩, fun e => (by have := q.h14 e; rw [d hf] at this; show isP _ _ (L 15) _ _; rw [d hf]; exact this), fun e => nt (d hf) e⟩
theorem S12.alloc14 (h : S12 w9 U W v8 ls xs ms L w y7 y8 y9 y10 y11 y12 y13 y14) (hf : L 14 = false) : S12 w9 U W v8 ls xs ms (put1 L 14) (w.alloc (.cells nilG tG)) y7 y8 y9 y10 y11 y12 y13 (.pointer (some ⟨w.heap.size, 0, none⟩)) := by
  obtain ⟨_, _, _, _, f⟩ := h.no
  have k := h.go (below_alloc (Below.refl w.heap.size w) (.cells nilG tG))
  exact ⟨k.bel, k.h7, k.h8, k.h9, k.h10, k.h11, k.h12, k.h13, fun _ => (by show isP _ _ (L 15) _ _; rw [f hf]; exact ⟨_, rfl, h.bel.size, Blk.new _ _ _⟩), fun e => nt (f hf) e⟩
theorem S12.store15 {g : Nat} {u1 u2 : Value} (h : S12 w9 U W v8 ls xs ms L w y7 y8 y9 y10 y11 y12 y13 y14) (d13 : L 13 = true) (d14 : L 14 = true) (hy : y13 = .agg #[u1, u2, .int .i64 0]) (hg : y14 = .pointer (some ⟨g, 0, none⟩)) (hgB : w9.heap.size ≤ g) (hb : Blk w g tG nilG) :
    S12 w9 U W v8 ls xs ms (put1 L 15) (set3 w g u1 u2) y7 y8 y9 y10 y11 y12 y13 y14 :=
  ⟨set3_below h.bel hgB _ _, fun e => (by obtain ⟨A, c, h1, h2, _⟩ := h.h7 e; exact ⟨A, c, h1, h2, fun e => (nomatch e)⟩), h.h8, h.h9, h.h10, fun e => (by obtain ⟨h0, A, c, h1, h2, _⟩ := h.h11 e; exact ⟨h0, A, c, h1, h2, fun e => (nomatch e)⟩), h.h12, fun e => ⟨(h.h13 e).1, (h.h13 e).2.set3 hb _ _⟩, fun _ => ⟨g, hg, hgB, by rw [hy]; exact set3_self hb⟩, fun _ => ⟨d13, d14⟩⟩
end
noncomputable def thenT1 : Code := behind 6 (Try.f6.body.getD .skip)
set_option maxHeartbeats 20000000 in
set_option maxRecDepth 100000 in
theorem then_t1 (x : Nat → Value) (w wl : World) (hb0l : Below w.heap.size w wl) (gp gc V U W k0 : Nat) (A C D X : List Nat) (l3 : List Int) (s : Int) (XA XC XX A3 : Option Addr) (cA cC cX c3 : Nat)
    (HP : Hid (∀ W', Below wl.heap.size wl W' → W'.cell? ⟨gp, 0, none⟩ = some (.int .i64 V) ∧ W'.cell? ⟨gp, 1, none⟩ = some (.slice XA (il A).length cA) ∧ W'.cell? ⟨gp, 2, none⟩ = some (.int .i64 U) ∧ W'.cell? ⟨gp, 3, none⟩ = some (.slice XC (il C).length cC)))
    (HA4 : Hid (∀ W', Below wl.heap.size wl W' → (Kd.int .u64).C W' XA (il A).length (il A))) (HC4 : Hid (∀ W', Below wl.heap.size wl W' → (Kd.int .u64).C W' XC (il C).length (il C)))
    (HRAW : Hid (∀ W', Below wl.heap.size wl W' → W'.cell? ⟨w.heap.size, 3, none⟩ = some (.slice A3 l3.length c3))) (HROW3 : Hid (∀ W', Below wl.heap.size wl W' → (Kd.int .u8).C W' A3 l3.length l3))
    (kc : Blk wl gc tI #[.int .i64 W, .slice XX (il X).length cX]) (hcA : (il A).length ≤ cA) (hcC : (il C).length ≤ cC) (hcX : (il X).length ≤ cX) (IX : (Kd.int .u64).C wl XX (il X).length (il X))
    (hp : MpE V U A C) (hx : CpE W X) (g3 : l3.length < 2 ^ 63) (hok3 : okL 256 l3 = true) (hd : plexusref42_Done.f k0 V (il A) s = some (il D)) (hD : ∀ i ∈ D, i < A.length) (hDn : D.Nodup) (hDl : D.length ≤ A.length) :
    Code.wp Try.prog thenT1 (bodyPost Try.prog Try.f6 fun e w' => e = .returned (.bool true) ∧ Below w.heap.size w w') { tmps := #[x 0, x 1, .int .u16 s, .pointer (some ⟨w.heap.size, 0, none⟩), x 4, x 5, x 6, .bool true, .pointer (some ⟨gp, 0, none⟩), .pointer (some ⟨gc, 0, none⟩), x 10, x 11, x 12, x 13, x 14, x 15, x 16, x 17, x 18, x 19, x 20, x 21, x 22, x 23, x 24, x 25, x 26, x 27, x 28, x 29, x 30, x 31, x 32, x 33, x 34, x 35, x 36, x 37, x 38, x 39, x 40, x 41, x 42, x 43, x 44, x 45, x 46, x 47, x 48, x 49, x 50, x 51, x 52, x 53, x 54, x 55, x 56, x 57, x 58, x 59, x 60, x 61, x 62, x 63, x 64, x 65, x 66, x 67, x 68, x 69, x 70, x 71, x 72, x 73, x 74, x 75, x 76, x 77, x 78, x 79, x 80, x 81, x 82, x 83, x 84, x 85, x 86, x 87, x 88, x 89, x 90, x 91, x 92, x 93, x 94, x 95, x 96, x 97, x 98, x 99, x 100, x 101, x 102, x 103, x 104, x 105, x 106, x 107, x 108, x 109, x 110, x 111, x 112, x 113, x 114, x 115, x 116, x 117, x 118, x 119, x 120, x 121, x 122, x 123, x 124, x 125, x 126, x 127, x 128, x 129, x 130, x 131, x 132], defers := [] } wl := by
  have hue := Try.underlying29
  have hui := Try.underlying36
  have hug := Try.underlying47
  have hup := Try.underlying38
  have huc := Try.underlying42
  have hur := Try.underlying26
  have hb4l := Below.refl wl.heap.size wl
  generalize hQ : bodyPost Try.prog _ _ = Q
  delta thenT1 Try.f6
  dsimp only [behind, Option.getD]
  obtain ⟨p0, p1, p2, p3⟩ := HP.out _ hb4l
  have r0 := (kc.cell 0).trans rfl
  by_cases hVU : (U : Int) < (V : Int)
  · go_wp2
    subst hQ
    go_ret
    exact ⟨rfl, hb0l⟩
  by_cases hUW : (W : Int) < (U : Int)
  · go_wp2
    subst hQ
    go_ret
    exact ⟨rfl, hb0l⟩
  have hVU' : V ≤ U := by omega
  have hUW' : U ≤ W := by omega
  have hW20 : W < 2 ^ 20 := Nat.lt_of_le_of_lt hx.w7 (by decide)
  have hal := hp.al
  have hcl := hp.cl
  obtain ⟨F2, F3, KK, f1, f3, g1, b2, o3, t3, b4, ck, hle⟩ := then_plain (nl l3) hp hx hD hDn hDl hVU' hUW'
  obtain ⟨M2, hM2⟩ : ∃ M2, embM A C D F2 = M2 := ⟨_, rfl⟩
  obtain ⟨G, hG⟩ : ∃ G, (shL (nl l3) W).take U = G := ⟨_, rfl⟩
  obtain ⟨M3, hM3⟩ : ∃ M3, embM C X [] G = M3 := ⟨_, rfl⟩
  obtain ⟨Fc, hFc⟩ : ∃ Fc, compN F2 G = Fc := ⟨_, rfl⟩
  obtain ⟨Mc, hMc⟩ : ∃ Mc, thenM M2 M3 = Mc := ⟨_, rfl⟩
  obtain ⟨M4, hM4⟩ : ∃ M4, embM A X D F3 = M4 := ⟨_, rfl⟩
  have lM2 : M2.length = A.length := by rw [← hM2, embM_len]
  have lMc : Mc.length = A.length := by rw [← hMc, thenM_len, lM2]
  have lM4 : M4.length = A.length := by rw [← hM4, embM_len]
  have lG : (il G).length = U := by rw [← hG, il_length]; exact g1
  rw [hG, hM2, hM3, hFc, hMc] at t3 ck
  rw [hG, hM2, hM3, hMc] at hle
  rw [hM2] at b2
  rw [hG, hM3] at o3
  rw [hM4] at b4 hle
  replace lG := hid lG
  have hDl1 : (il D).length < 1000 := by rw [il_length]; omega
  have hMc1 : Mc.length < 1000 := by omega
  have hM41 : M4.length < 1000 := by omega
  clear hM2 hM3 hFc hMc hM4 g1 lM2 lMc lM4 hal hcl
  have HCX := hid (fun W' (hb : Below wl.heap.size wl W') => (show W'.cell? ⟨gc, 0, none⟩ = some (.int .i64 W) ∧ W'.cell? ⟨gc, 1, none⟩ = some (.slice XX (il X).length cX) ∧ (Kd.int .u64).C W' XX (il X).length (il X) from by
    have k := kc.below hb kc.lt
    exact ⟨(k.cell 0).trans rfl, (k.cell 1).trans rfl, Kd.C_below IX hb⟩))
  have DONE := hid (plexusref42_Done.calls k0 V XA cA (il A) s (il D) wl (HA4.out _ hb4l) hcA hd)
  go_upto_region 11 with (go_at_call 10; refine DONE.out.mono ?_; rintro e w7 ⟨vd, rfl, hrd, hb7⟩; obtain ⟨XD, cD, rfl, hcD, ID⟩ := Kd.R_reads hrd; clear hrd p0 p1 p2 p3 r0)
  have hb47 : Below wl.heap.size wl w7 := below_then hb4l hb4l.size hb7
  obtain ⟨p0, p1, p2, p3⟩ := HP.out _ hb47
  have BEST := hid (plexuslaw42_best.calls V XA cA (il A) U XC cC (il C) XD cD (il D) (il F2) M2 0 w7 (HA4.out _ hb47) hcA (HC4.out _ hb47) hcC ID hcD b2)
  go_upto_region 12 with (go_at_call 15; refine BEST.out.mono ?_; rintro e w8 ⟨v1, v2, rfl, hr1, hr2, hb8⟩; obtain ⟨E1, cE1, rfl, hcE1, IE1⟩ := Kd.R_reads hr1; obtain ⟨E2, cE2, rfl, hcE2, IE2⟩ := Kd.R_reads hr2; clear hr1 hr2 p0 p1 p2 p3)
  obtain ⟨w9, hw9⟩ : ∃ w9, w8.alloc (.cells #[.slice E1 (il F2).length cE1, .slice E2 M2.length cE2, .int .i64 0] tG) = w9 := ⟨_, rfl⟩
  have hb89 : Below w8.heap.size w8 w9 := by rw [← hw9]; exact below_alloc (Below.refl _ _) _
  have hb79 := below_then hb8 hb8.size hb89
  have hbl9 : Below wl.heap.size wl w9 := below_then hb7 hb7.size hb79
  have hb49 : Below wl.heap.size wl w9 := below_then hb4l hb4l.size hbl9
  have hb09 : Below w.heap.size w w9 := below_then hb0l hb0l.size hbl9
  have ke : Blk w9 w8.heap.size tG #[.slice E1 (il F2).length cE1, .slice E2 M2.length cE2, .int .i64 0] := by rw [← hw9]; exact Blk.new _ _ _
  obtain ⟨ge, hge⟩ : ∃ ge, w8.heap.size = ge := ⟨_, rfl⟩
  rw [hw9]
  rw [hge] at ke ⊢
  have HE := hid (fun W' (hb : Below w9.heap.size w9 W') => (show W'.cell? ⟨ge, 0, none⟩ = some (.slice E1 (il F2).length cE1) ∧ W'.cell? ⟨ge, 1, none⟩ = some (.slice E2 M2.length cE2) ∧ W'.cell? ⟨ge, 2, none⟩ = some (.int .i64 0) from by
    have k := ke.below hb ke.lt
    exact ⟨(k.cell 0).trans rfl, (k.cell 1).trans rfl, (k.cell 2).trans rfl⟩))
  have HIE := hid (fun W' (hb : Below w9.heap.size w9 W') => (show IC W' E1 (il F2).length (il F2) ∧ IC W' E2 M2.length M2 from ⟨Kd.C_below (Kd.C_below IE1 hb89) hb, Kd.C_below (Kd.C_below IE2 hb89) hb⟩))
  have HID := hid (fun W' (hb : Below w9.heap.size w9 W') => (show IC W' XD (il D).length (il D) from Kd.C_below ID (below_then hb79 hb79.size hb)))
  have H12 := hid (fun W' (hb : Below w9.heap.size w9 W') => (show W'.cell? ⟨gp, 2, none⟩ = some (.int .i64 U) ∧ W'.cell? ⟨gp, 3, none⟩ = some (.slice XC (il C).length cC) ∧ W'.cell? ⟨gc, 0, none⟩ = some (.int .i64 W) ∧ W'.cell? ⟨gc, 1, none⟩ = some (.slice XX (il X).length cX) ∧ W'.cell? ⟨w.heap.size, 3, none⟩ = some (.slice A3 l3.length c3) from by
    obtain ⟨_, _, q2, q3⟩ := HP.out W' (below_then hb49 hb49.size hb)
    obtain ⟨x0, x1, _⟩ := HCX.out W' (below_then hbl9 hbl9.size hb)
    have q5 := HRAW.out W' (below_then hbl9 hbl9.size hb)
    exact ⟨q2, q3, x0, x1, q5⟩))
  have HR3 := hid (fun W' (hb : Below w9.heap.size w9 W') => nlc_of (HROW3.out W' (below_then hbl9 hbl9.size hb)) hok3)
  have HCC := hid (fun W' (hb : Below w9.heap.size w9 W') => (show (Kd.int .u64).C W' XC (il C).length (il C) ∧ (Kd.int .u64).C W' XX (il X).length (il X) from ⟨HC4.out W' (below_then hb49 hb49.size hb), (HCX.out W' (below_then hbl9 hbl9.size hb)).2.2⟩))
  clear hw9 ke hge IE1 IE2 ID BEST DONE hb8 hb89 hb79 b2
  rename_i K hK
  refine (wpIn_wide (n := 8)).1 ?_
  obtain ⟨vv, hvv⟩ : ∃ vv : Nat → Value, vv = fun i => (#[.pointer (some ⟨gp, 2, none⟩), .agg #[.int .i64 U, .slice XC (il C).length cC], .agg #[.int .i64 W, .slice XX (il X).length cX], .pointer (some ⟨gc, 0, none⟩), .int .i64 W, .pointer (some ⟨w.heap.size, 3, none⟩), .slice A3 l3.length c3] : Array Value).getD i undef := ⟨_, rfl⟩
  have mk : ∀ (L : Nat → Bool) (a' : Act) (w' : World), a' = ({ tmps := #[x 0, x 1, .int .u16 s, .pointer (some ⟨w.heap.size, 0, none⟩), x 4, x 5, x 6, .bool true, .pointer (some ⟨gp, 0, none⟩), .pointer (some ⟨gc, 0, none⟩), .slice XD (il D).length cD, .pointer (some ⟨ge, 0, none⟩), a'.tmps.getD ((#[66, 67, 68, 69, 70, 71, 72, 73, 74, 75, 76, 77, 78, 79, 12, 200] : Array Nat).getD (14) 0) undef, x 13, x 14, x 15, x 16, x 17, x 18, x 19, x 20, x 21, x 22, x 23, x 24, x 25, x 26, x 27, x 28, x 29, x 30, x 31, x 32, x 33, x 34, x 35, x 36, x 37, x 38, x 39, .pointer (some ⟨gp, 0, none⟩), .pointer (some ⟨gp, 0, none⟩), .int .i64 V, .pointer (some ⟨gp, 2, none⟩), .pointer (some ⟨gp, 2, none⟩), .int .i64 U, .bool false, .bool false, .pointer (some ⟨gp, 2, none⟩), .pointer (some ⟨gp, 2, none⟩), .int .i64 U, .pointer (some ⟨gc, 0, none⟩), .int .i64 W, .bool false, .bool false, x 55, .pointer (some ⟨gp, 0, none⟩), .agg #[.int .i64 V, .slice XA (il A).length cA], .int .u16 s, .slice XD (il D).length cD, .pointer (some ⟨gp, 0, none⟩), .agg #[.int .i64 V, .slice XA (il A).length cA], .pointer (some ⟨gp, 2, none⟩), .agg #[.int .i64 U, .slice XC (il C).length cC], .slice XD (il D).length cD, .agg #[.slice E1 (il F2).length cE1, .slice E2 M2.length cE2, .int .i64 0], a'.tmps.getD ((#[66, 67, 68, 69, 70, 71, 72, 73, 74, 75, 76, 77, 78, 79, 12, 200] : Array Nat).getD (0) 0) undef, a'.tmps.getD ((#[66, 67, 68, 69, 70, 71, 72, 73, 74, 75, 76, 77, 78, 79, 12, 200] : Array Nat).getD (1) 0) undef, a'.tmps.getD ((#[66, 67, 68, 69, 70, 71, 72, 73, 74, 75, 76, 77, 78, 79, 12, 200] : Array Nat).getD (2) 0) undef, a'.tmps.getD ((#[66, 67, 68, 69, 70, 71, 72, 73, 74, 75, 76, 77, 78, 79, 12, 200] : Array Nat).getD (3) 0) undef, a'.tmps.getD ((#[66, 67, 68, 69, 70, 71, 72, 73, 74, 75, 76, 77, 78, 79, 12, 200] : Array Nat).getD (4) 0) undef, a'.tmps.getD ((#[66, 67, 68, 69, 70, 71, 72, 73, 74, 75, 76, 77, 78, 79, 12, 200] : Array Nat).getD (5) 0) undef, a'.tmps.getD ((#[66, 67, 68, 69, 70, 71, 72, 73, 74, 75, 76, 77, 78, 79, 12, 200] : Array Nat).getD (6) 0) undef, a'.tmps.getD ((#[66, 67, 68, 69, 70, 71, 72, 73, 74, 75, 76, 77, 78, 79, 12, 200] : Array Nat).getD (7) 0) undef, a'.tmps.getD ((#[66, 67, 68, 69, 70, 71, 72, 73, 74, 75, 76, 77, 78, 79, 12, 200] : Array Nat).getD (8) 0) undef, a'.tmps.getD ((#[66, 67, 68, 69, 70, 71, 72, 73, 74, 75, 76, 77, 78, 79, 12, 200] : Array Nat).getD (9) 0) undef, a'.tmps.getD ((#[66, 67, 68, 69, 70, 71, 72, 73, 74, 75, 76, 77, 78, 79, 12, 200] : Array Nat).getD (10) 0) undef, a'.tmps.getD ((#[66, 67, 68, 69, 70, 71, 72, 73, 74, 75, 76, 77, 78, 79, 12, 200] : Array Nat).getD (11) 0) undef, a'.tmps.getD ((#[66, 67, 68, 69, 70, 71, 72, 73, 74, 75, 76, 77, 78, 79, 12, 200] : Array Nat).getD (12) 0) undef, a'.tmps.getD ((#[66, 67, 68, 69, 70, 71, 72, 73, 74, 75, 76, 77, 78, 79, 12, 200] : Array Nat).getD (13) 0) undef, x 80, x 81, x 82, x 83, x 84, x 85, x 86, x 87, x 88, x 89, x 90, x 91, x 92, x 93, x 94, x 95, x 96, x 97, x 98, x 99, x 100, x 101, x 102, x 103, x 104, x 105, x 106, x 107, x 108, x 109, x 110, x 111, x 112, x 113, x 114, x 115, x 116, x 117, x 118, x 119, x 120, x 121, x 122, x 123, x 124, x 125, x 126, x 127, x 128, x 129, x 130, x 131, x 132], defers := [] } : Act) → (∀ j < 7, L j = true → a'.tmps.getD ((#[66, 67, 68, 69, 70, 71, 72, 73, 74, 75, 76, 77, 78, 79, 12, 200] : Array Nat).getD (j) 0) undef = vv j) → (fun (L : Nat → Bool) (wz : World) (y : Nat → Value) => S12 w9 U W (.pointer (some ⟨gp, 2, none⟩)) (nl l3) (il G) M3 L wz (y 7) (y 8) (y 9) (y 10) (y 11) (y 12) (y 13) (y 14)) L w' (fun m => a'.tmps.getD ((#[66, 67, 68, 69, 70, 71, 72, 73, 74, 75, 76, 77, 78, 79, 12, 200] : Array Nat).getD (m) 0) undef) → ∃ y : Nat → Value, a' = ({ tmps := #[x 0, x 1, .int .u16 s, .pointer (some ⟨w.heap.size, 0, none⟩), x 4, x 5, x 6, .bool true, .pointer (some ⟨gp, 0, none⟩), .pointer (some ⟨gc, 0, none⟩), .slice XD (il D).length cD, .pointer (some ⟨ge, 0, none⟩), y 14, x 13, x 14, x 15, x 16, x 17, x 18, x 19, x 20, x 21, x 22, x 23, x 24, x 25, x 26, x 27, x 28, x 29, x 30, x 31, x 32, x 33, x 34, x 35, x 36, x 37, x 38, x 39, .pointer (some ⟨gp, 0, none⟩), .pointer (some ⟨gp, 0, none⟩), .int .i64 V, .pointer (some ⟨gp, 2, none⟩), .pointer (some ⟨gp, 2, none⟩), .int .i64 U, .bool false, .bool false, .pointer (some ⟨gp, 2, none⟩), .pointer (some ⟨gp, 2, none⟩), .int .i64 U, .pointer (some ⟨gc, 0, none⟩), .int .i64 W, .bool false, .bool false, x 55, .pointer (some ⟨gp, 0, none⟩), .agg #[.int .i64 V, .slice XA (il A).length cA], .int .u16 s, .slice XD (il D).length cD, .pointer (some ⟨gp, 0, none⟩), .agg #[.int .i64 V, .slice XA (il A).length cA], .pointer (some ⟨gp, 2, none⟩), .agg #[.int .i64 U, .slice XC (il C).length cC], .slice XD (il D).length cD, .agg #[.slice E1 (il F2).length cE1, .slice E2 M2.length cE2, .int .i64 0], y 0, y 1, y 2, y 3, y 4, y 5, y 6, y 7, y 8, y 9, y 10, y 11, y 12, y 13, x 80, x 81, x 82, x 83, x 84, x 85, x 86, x 87, x 88, x 89, x 90, x 91, x 92, x 93, x 94, x 95, x 96, x 97, x 98, x 99, x 100, x 101, x 102, x 103, x 104, x 105, x 106, x 107, x 108, x 109, x 110, x 111, x 112, x 113, x 114, x 115, x 116, x 117, x 118, x 119, x 120, x 121, x 122, x 123, x 124, x 125, x 126, x 127, x 128, x 129, x 130, x 131, x 132], defers := [] } : Act) ∧ (∀ j < 7, L j = true → y j = vv j) ∧ (fun (L : Nat → Bool) (wz : World) (y : Nat → Value) => S12 w9 U W (.pointer (some ⟨gp, 2, none⟩)) (nl l3) (il G) M3 L wz (y 7) (y 8) (y 9) (y 10) (y 11) (y 12) (y 13) (y 14)) L w' y := fun L a' w' h1 h2 h3 => ⟨fun m => a'.tmps.getD ((#[66, 67, 68, 69, 70, 71, 72, 73, 74, 75, 76, 77, 78, 79, 12, 200] : Array Nat).getD (m) 0) undef, h1, h2, h3⟩
  refine wpIn_region_inv2 (by kernel_rfl) (fun L aI wI => ∃ y : Nat → Value, aI = ({ tmps := #[x 0, x 1, .int .u16 s, .pointer (some ⟨w.heap.size, 0, none⟩), x 4, x 5, x 6, .bool true, .pointer (some ⟨gp, 0, none⟩), .pointer (some ⟨gc, 0, none⟩), .slice XD (il D).length cD, .pointer (some ⟨ge, 0, none⟩), y 14, x 13, x 14, x 15, x 16, x 17, x 18, x 19, x 20, x 21, x 22, x 23, x 24, x 25, x 26, x 27, x 28, x 29, x 30, x 31, x 32, x 33, x 34, x 35, x 36, x 37, x 38, x 39, .pointer (some ⟨gp, 0, none⟩), .pointer (some ⟨gp, 0, none⟩), .int .i64 V, .pointer (some ⟨gp, 2, none⟩), .pointer (some ⟨gp, 2, none⟩), .int .i64 U, .bool false, .bool false, .pointer (some ⟨gp, 2, none⟩), .pointer (some ⟨gp, 2, none⟩), .int .i64 U, .pointer (some ⟨gc, 0, none⟩), .int .i64 W, .bool false, .bool false, x 55, .pointer (some ⟨gp, 0, none⟩), .agg #[.int .i64 V, .slice XA (il A).length cA], .int .u16 s, .slice XD (il D).length cD, .pointer (some ⟨gp, 0, none⟩), .agg #[.int .i64 V, .slice XA (il A).length cA], .pointer (some ⟨gp, 2, none⟩), .agg #[.int .i64 U, .slice XC (il C).length cC], .slice XD (il D).length cD, .agg #[.slice E1 (il F2).length cE1, .slice E2 M2.length cE2, .int .i64 0], y 0, y 1, y 2, y 3, y 4, y 5, y 6, y 7, y 8, y 9, y 10, y 11, y 12, y 13, x 80, x 81, x 82, x 83, x 84, x 85, x 86, x 87, x 88, x 89, x 90, x 91, x 92, x 93, x 94, x 95, x 96, x 97, x 98, x 99, x 100, x 101, x 102, x 103, x 104, x 105, x 106, x 107, x 108, x 109, x 110, x 111, x 112, x 113, x 114, x 115, x 116, x 117, x 118, x 119, x 120, x 121, x 122, x 123, x 124, x 125, x 126, x 127, x 128, x 129, x 130, x 131, x 132], defers := [] } : Act) ∧ (∀ j < 7, L j = true → y j = vv j) ∧ (fun (L : Nat → Bool) (wz : World) (y : Nat → Value) => S12 w9 U W (.pointer (some ⟨gp, 2, none⟩)) (nl l3) (il G) M3 L wz (y 7) (y 8) (y 9) (y 10) (y 11) (y 12) (y 13) (y 14)) L wI y) ?acyc ?start ?step ?rdone
  case acyc => exact fun i o ho => acyc_of2 (by kernel_rfl) i o ho
  case start => exact mk (fun _ => false) _ _ rfl (fun _ _ h => by cases h) (by exact ⟨below_drew (Below.refl _ _), (fun h => nomatch h), (fun h => nomatch h), (fun h => nomatch h), (fun h => nomatch h), (fun h => nomatch h), (fun h => nomatch h), (fun h => nomatch h), (fun h => nomatch h), (fun h => nomatch h)⟩)
  case step =>
    rintro i o L a wx ho hLi hdep ⟨y, rfl, hy, hWI⟩ K hK
    have hi : i < 16 := (Array.getElem?_eq_some_iff.1 ho).1
    rcases i with _ | _ | _ | _ | _ | _ | _ | _ | _ | _ | _ | _ | _ | _ | _ | _ | i
    · obtain rfl := Option.some.inj ho
      clear hdep ho
      go_simp
      refine hK _ _ (mk _ _ _ rfl ?_ ?_)
      rotate_left
      · exact hWI.q 0 (by decide)
      · intro j hj h
        rcases j with _ | _ | _ | _ | _ | _ | _ | j
        · rw [hvv]; rfl
        · exact hy 1 (by decide) h
        · exact hy 2 (by decide) h
        · exact hy 3 (by decide) h
        · exact hy 4 (by decide) h
        · exact hy 5 (by decide) h
        · exact hy 6 (by decide) h
        · exfalso; omega
    · obtain rfl := Option.some.inj ho
      have d0 : L 0 = true := hdep ⟨0, .data⟩ (by simp) rfl
      have e0 : y 0 = .pointer (some ⟨gp, 2, none⟩) := (hy 0 (by omega) d0).trans (by rw [hvv]; rfl)
      clear hdep ho
      rw [e0]
      obtain ⟨q2, q3, x0, x1, q5⟩ := H12.out _ hWI.bel
      go_simp
      refine hK _ _ (mk _ _ _ rfl ?_ ?_)
      rotate_left
      · exact hWI.q 1 (by decide)
      · intro j hj h
        rcases j with _ | _ | _ | _ | _ | _ | _ | j
        · rw [hvv]; rfl
        · rw [hvv]; rfl
        · exact hy 2 (by decide) h
        · exact hy 3 (by decide) h
        · exact hy 4 (by decide) h
        · exact hy 5 (by decide) h
        · exact hy 6 (by decide) h
        · exfalso; omega
    · obtain rfl := Option.some.inj ho
      clear hdep ho
      obtain ⟨q2, q3, x0, x1, q5⟩ := H12.out _ hWI.bel
      go_simp
      refine hK _ _ (mk _ _ _ rfl ?_ ?_)
      rotate_left
      · exact hWI.q 2 (by decide)
      · intro j hj h
        rcases j with _ | _ | _ | _ | _ | _ | _ | j
        · exact hy 0 (by decide) h
        · exact hy 1 (by decide) h
        · rw [hvv]; rfl
        · exact hy 3 (by decide) h
        · exact hy 4 (by decide) h
        · exact hy 5 (by decide) h
        · exact hy 6 (by decide) h
        · exfalso; omega
    · obtain rfl := Option.some.inj ho
      clear hdep ho
      go_simp
      refine hK _ _ (mk _ _ _ rfl ?_ ?_)
      rotate_left
      · exact hWI.q 3 (by decide)
      · intro j hj h
        rcases j with _ | _ | _ | _ | _ | _ | _ | j
        · exact hy 0 (by decide) h
        · exact hy 1 (by decide) h
        · exact hy 2 (by decide) h
        · rw [hvv]; rfl
        · exact hy 4 (by decide) h
        · exact hy 5 (by decide) h
        · exact hy 6 (by decide) h
        · exfalso; omega
    · obtain rfl := Option.some.inj ho
      have d3 : L 3 = true := hdep ⟨3, .data⟩ (by simp) rfl
      have e3 : y 3 = .pointer (some ⟨gc, 0, none⟩) := (hy 3 (by omega) d3).trans (by rw [hvv]; rfl)
      clear hdep ho
      rw [e3]
      obtain ⟨q2, q3, x0, x1, q5⟩ := H12.out _ hWI.bel
      go_simp
      refine hK _ _ (mk _ _ _ rfl ?_ ?_)
      rotate_left
      · exact hWI.q 4 (by decide)
      · intro j hj h
        rcases j with _ | _ | _ | _ | _ | _ | _ | j
        · exact hy 0 (by decide) h
        · exact hy 1 (by decide) h
        · exact hy 2 (by decide) h
        · rw [hvv]; rfl
        · rw [hvv]; rfl
        · exact hy 5 (by decide) h
        · exact hy 6 (by decide) h
        · exfalso; omega
    · obtain rfl := Option.some.inj ho
      clear hdep ho
      go_simp
      refine hK _ _ (mk _ _ _ rfl ?_ ?_)
      rotate_left
      · exact hWI.q 5 (by decide)
      · intro j hj h
        rcases j with _ | _ | _ | _ | _ | _ | _ | j
        · exact hy 0 (by decide) h
        · exact hy 1 (by decide) h
        · exact hy 2 (by decide) h
        · exact hy 3 (by decide) h
        · exact hy 4 (by decide) h
        · rw [hvv]; rfl
        · exact hy 6 (by decide) h
        · exfalso; omega
    · obtain rfl := Option.some.inj ho
      have d5 : L 5 = true := hdep ⟨5, .data⟩ (by simp) rfl
      have e5 : y 5 = .pointer (some ⟨w.heap.size, 3, none⟩) := (hy 5 (by omega) d5).trans (by rw [hvv]; rfl)
      clear hdep ho
      rw [e5]
      obtain ⟨q2, q3, x0, x1, q5⟩ := H12.out _ hWI.bel
      go_simp
      refine hK _ _ (mk _ _ _ rfl ?_ ?_)
      rotate_left
      · exact hWI.q 6 (by decide)
      · intro j hj h
        rcases j with _ | _ | _ | _ | _ | _ | _ | j
        · exact hy 0 (by decide) h
        · exact hy 1 (by decide) h
        · exact hy 2 (by decide) h
        · exact hy 3 (by decide) h
        · exact hy 4 (by decide) h
        · rw [hvv]; rfl
        · rw [hvv]; rfl
        · exfalso; omega
    · obtain rfl := Option.some.inj ho
      have d4 : L 4 = true := hdep ⟨4, .data⟩ (by simp) rfl
      have d6 : L 6 = true := hdep ⟨6, .data⟩ (by simp) rfl
      have e4 : y 4 = .int .i64 W := (hy 4 (by omega) d4).trans (by rw [hvv]; rfl)
      have e6 : y 6 = .slice A3 l3.length c3 := (hy 6 (by omega) d6).trans (by rw [hvv]; rfl)
      clear hdep ho
      rw [e4, e6]
      have SH := hid (shuffled_any A3 l3.length c3 W (nl l3) _ (HR3.out _ hWI.bel) g3 hW20)
      go_simp
      gi_wp2_with (refine ⟨trivial, ?_⟩; gi_at_call 23; refine (callsIn_wide.2 SH.out).mono ?_; rintro e w' ⟨v, rfl, hown, hbw⟩)
      refine mk _ _ _ rfl ?_ ?_
      rotate_left
      · exact hWI.call7 hLi hbw hown
      · intro j hj h
        rcases j with _ | _ | _ | _ | _ | _ | _ | j
        · exact hy 0 (by decide) h
        · exact hy 1 (by decide) h
        · exact hy 2 (by decide) h
        · exact hy 3 (by decide) h
        · rw [hvv]; rfl
        · exact hy 5 (by decide) h
        · rw [hvv]; rfl
        · exfalso; omega
    · obtain rfl := Option.some.inj ho
      clear hdep ho
      go_simp
      refine hK _ _ (mk _ _ _ rfl ?_ ?_)
      rotate_left
      · exact hWI.op8
      · intro j hj h
        rcases j with _ | _ | _ | _ | _ | _ | _ | j
        · exact hy 0 (by decide) h
        · exact hy 1 (by decide) h
        · exact hy 2 (by decide) h
        · exact hy 3 (by decide) h
        · exact hy 4 (by decide) h
        · exact hy 5 (by decide) h
        · exact hy 6 (by decide) h
        · exfalso; omega
    · obtain rfl := Option.some.inj ho
      have d8 : L 8 = true := hdep ⟨8, .data⟩ (by simp) rfl
      clear hdep ho
      rw [hWI.h8 d8]
      go_simp
      refine hK _ _ (mk _ _ _ rfl ?_ ?_)
      rotate_left
      · exact (by have hh := hWI.op9; rw [hWI.h8 d8] at hh; exact hh)
      · intro j hj h
        rcases j with _ | _ | _ | _ | _ | _ | _ | j
        · exact hy 0 (by decide) h
        · exact hy 1 (by decide) h
        · exact hy 2 (by decide) h
        · exact hy 3 (by decide) h
        · exact hy 4 (by decide) h
        · exact hy 5 (by decide) h
        · exact hy 6 (by decide) h
        · exfalso; omega
    · obtain rfl := Option.some.inj ho
      have d9 : L 9 = true := hdep ⟨9, .data⟩ (by simp) rfl
      clear hdep ho
      rw [hWI.h9 d9]
      obtain ⟨q2, q3, x0, x1, q5⟩ := H12.out _ hWI.bel
      go_simp
      refine hK _ _ (mk _ _ _ rfl ?_ ?_)
      rotate_left
      · exact (by have hh := hWI.op10; rw [hWI.h9 d9] at hh; exact hh)
      · intro j hj h
        rcases j with _ | _ | _ | _ | _ | _ | _ | j
        · exact hy 0 (by decide) h
        · exact hy 1 (by decide) h
        · exact hy 2 (by decide) h
        · exact hy 3 (by decide) h
        · exact hy 4 (by decide) h
        · exact hy 5 (by decide) h
        · exact hy 6 (by decide) h
        · exfalso; omega
    · obtain rfl := Option.some.inj ho
      have d7 : L 7 = true := hdep ⟨7, .data⟩ (by simp) rfl
      have d10 : L 10 = true := hdep ⟨10, .data⟩ (by simp) rfl
      clear hdep ho
      obtain ⟨A7, c7, e7, hc7, _⟩ := hWI.h7 d7
      have hUc : U ≤ c7 := Nat.le_trans hUW' hc7
      rw [e7, hWI.h10 d10]
      go_simp
      refine hK _ _ (mk _ _ _ rfl ?_ ?_)
      rotate_left
      · exact (by have hh := hWI.op11 hLi d7 e7 hUW'; rw [e7, hWI.h10 d10] at hh; exact hh)
      · intro j hj h
        rcases j with _ | _ | _ | _ | _ | _ | _ | j
        · exact hy 0 (by decide) h
        · exact hy 1 (by decide) h
        · exact hy 2 (by decide) h
        · exact hy 3 (by decide) h
        · exact hy 4 (by decide) h
        · exact hy 5 (by decide) h
        · exact hy 6 (by decide) h
        · exfalso; omega
    · obtain rfl := Option.some.inj ho
      have d11 : L 11 = true := hdep ⟨11, .data⟩ (by simp) rfl
      clear hdep ho
      obtain ⟨_, A11, c11, e11, hc11, _⟩ := hWI.h11 d11
      rw [e11]
      go_simp
      refine hK _ _ (mk _ _ _ rfl ?_ ?_)
      rotate_left
      · exact (by have hh := hWI.op12 hLi d11; rw [e11] at hh; exact hh)
      · intro j hj h
        rcases j with _ | _ | _ | _ | _ | _ | _ | j
        · exact hy 0 (by decide) h
        · exact hy 1 (by decide) h
        · exact hy 2 (by decide) h
        · exact hy 3 (by decide) h
        · exact hy 4 (by decide) h
        · exact hy 5 (by decide) h
        · exact hy 6 (by decide) h
        · exfalso; omega
    · obtain rfl := Option.some.inj ho
      have d1 : L 1 = true := hdep ⟨1, .data⟩ (by simp) rfl
      have d2 : L 2 = true := hdep ⟨2, .data⟩ (by simp) rfl
      have d12 : L 12 = true := hdep ⟨12, .data⟩ (by simp) rfl
      have d7 : L 7 = true := hdep ⟨7, .chain⟩ (by simp) rfl
      have e1 : y 1 = .agg #[.int .i64 U, .slice XC (il C).length cC] := (hy 1 (by omega) d1).trans (by rw [hvv]; rfl)
      have e2 : y 2 = .agg #[.int .i64 W, .slice XX (il X).length cX] := (hy 2 (by omega) d2).trans (by rw [hvv]; rfl)
      clear hdep ho
      rw [e1, e2]
      obtain ⟨_, e12⟩ := hWI.h12 d12
      obtain ⟨_, A11, c11, e11, hc11, I11⟩ := hWI.h11 (hWI.h12 d12).1
      rw [e11] at e12
      rw [e12]
      have I11 := I11 (hWI.no.2.2.2.1 hLi)
      rw [hG] at I11
      have OFC := plexuslaw42_of.calls U XC cC (il C) W XX cX (il X) A11 c11 (il G) none 0 [] (il G) M3 0 _ (HCC.out _ hWI.bel).1 hcC (HCC.out _ hWI.bel).2 hcX (by rw [lG.out]; exact I11) (by rw [lG.out]; exact hc11) (Kd.C_of_reads (d := 0) ⟨rfl, by simp, fun h => by simp at h⟩) (by simp) o3
      rw [lG.out] at OFC
      replace OFC := hid OFC
      go_simp
      gi_wp2_with (refine ⟨trivial, ?_⟩; gi_at_call 12; refine (callsIn_wide.2 OFC.out).mono ?_; rintro e w' ⟨v1, v2, rfl, hr1, hr2, hbw⟩)
      refine mk _ _ _ rfl ?_ ?_
      rotate_left
      · exact (by have hh := hWI.call13 hLi d12 hbw ⟨v1, v2, rfl, rowR.of hr1 hWI.bel.size, rowR.of hr2 hWI.bel.size⟩; rw [e12, e11] at hh; exact hh)
      · intro j hj h
        rcases j with _ | _ | _ | _ | _ | _ | _ | j
        · exact hy 0 (by decide) h
        · rw [hvv]; rfl
        · rw [hvv]; rfl
        · exact hy 3 (by decide) h
        · exact hy 4 (by decide) h
        · exact hy 5 (by decide) h
        · exact hy 6 (by decide) h
        · exfalso; omega
    · obtain rfl := Option.some.inj ho
      clear hdep ho
      go_simp
      refine hK _ _ (mk _ _ _ rfl ?_ ?_)
      rotate_left
      · exact hWI.alloc14 hLi
      · intro j hj h
        rcases j with _ | _ | _ | _ | _ | _ | _ | j
        · exact hy 0 (by decide) h
        · exact hy 1 (by decide) h
        · exact hy 2 (by decide) h
        · exact hy 3 (by decide) h
        · exact hy 4 (by decide) h
        · exact hy 5 (by decide) h
        · exact hy 6 (by decide) h
        · exfalso; omega
    · obtain rfl := Option.some.inj ho
      have d14 : L 14 = true := hdep ⟨14, .data⟩ (by simp) rfl
      have d13 : L 13 = true := hdep ⟨13, .data⟩ (by simp) rfl
      have d13 : L 13 = true := hdep ⟨13, .chain⟩ (by simp) rfl
      clear hdep ho
      have nn : L 15 = false := hLi
      obtain ⟨_, v1, v2, hy3, hr1, hr2⟩ := hWI.h13 d13
      obtain ⟨A1_, c1_, e1_, _, _⟩ := hr1.reads
      obtain ⟨A2_, c2_, e2_, _, _⟩ := hr2.reads
      subst e1_ e2_
      obtain ⟨g, hg, hgB, hblk⟩ := hWI.h14 d14
      rw [nn, if_neg (by decide)] at hblk
      have q0 := (hblk.cell 0).trans rfl
      have q1 := (hblk.cell 1).trans rfl
      have q2 := (hblk.cell 2).trans rfl
      have f0 := hblk.frozen 0
      have f1 := hblk.frozen 1
      have f2 := hblk.frozen 2
      rw [hy3, hg]
      go_simp
      refine hK _ _ (mk _ _ _ rfl ?_ ?_)
      rotate_left
      · exact (by have hh := hWI.store15 d13 d14 hy3 hg hgB hblk; rw [hy3, hg] at hh; exact hh)
      · intro j hj h
        rcases j with _ | _ | _ | _ | _ | _ | _ | j
        · exact hy 0 (by decide) h
        · exact hy 1 (by decide) h
        · exact hy 2 (by decide) h
        · exact hy 3 (by decide) h
        · exact hy 4 (by decide) h
        · exact hy 5 (by decide) h
        · exact hy 6 (by decide) h
        · exfalso; omega
    · exfalso; omega
  case rdone =>
    rintro L a wq hall ⟨y, ha, hy, hWI⟩
    obtain ⟨_, v1, v2, hy13, hr1, hr2⟩ := hWI.h13 (hall 13 (by decide))
    obtain ⟨gf, hgf, hgfB, kf⟩ := hWI.h14 (hall 14 (by decide))
    rw [if_pos (hall 15 (by decide)), hy13] at kf
    obtain ⟨Z1, cZ1, e1, hcZ1, IZ1⟩ := hr1.reads
    obtain ⟨Z2, cZ2, e2, hcZ2, IZ2⟩ := hr2.reads
    subst e1 e2
    have hbq := hWI.bel
    have hblq : Below wl.heap.size wl wq := below_then hbl9 hbl9.size hbq
    refine hK _ _ ?_
    rw [hgf] at ha
    have hres := then_t2 (fun i => a.tmps.getD i undef) w wq (below_then hb0l hb0l.size hblq) gp gc ge gf V U W A X D G F2 F3 Fc M2 M3 Mc M4 XA XX XD E1 E2 Z1 Z2 cA cX cD cE1 cE2 cZ1 cZ2 KK
      (hid fun W' hb => (by obtain ⟨q0, q1, _⟩ := HP.out W' (below_then hblq hblq.size hb); exact ⟨q0, q1⟩)) (hid fun W' hb => HCX.out W' (below_then hblq hblq.size hb)) (hid fun W' hb => HA4.out W' (below_then hblq hblq.size hb))
      (hid fun W' hb => HE.out W' (below_then hbq hbq.size hb)) (hid fun W' hb => HIE.out W' (below_then hbq hbq.size hb)) (hid fun W' hb => HID.out W' (below_then hbq hbq.size hb)) kf IZ1 IZ2 hcA hcX hcD hcE1 hcE2 hcZ1 hcZ2 t3 b4 ck hDl1 hMc1 hM41 hle
    subst ha
    subst hQ
    exact hres
end Go.Proofs.Ytheclfjbedajfaa.Pd


namespace Go.Proofs.Ytheclfjbedajfaa.Pd
set_option linter.unusedSimpArgs false
set_option linter.unusedVariables false
open Go.RowKit Go.Lib Go.Shelf Go.Proofs.YtheclfjbedajfaaW.PrintWords Go.Proofs.Ytheclfjbedajfaa Go.Proofs.YtheclfjbedajfaaW.PrintMore
attribute [local go_sem] Oper.semAt_some

set_option maxHeartbeats 20000000 in
set_option maxRecDepth 100000 in
theorem then_law (A0 A1 A3 A4 Y0 : Option Addr) (c0 c1 c3 c4 d0 : Nat) (l0 l1 l3 l4 y0 : List Int) (a s : Int) (w : World) (hC0 : Kd.C (Kd.int .u8) w A0 l0.length l0) (hc0 : l0.length ≤ c0) (hC1 : Kd.C (Kd.int .u8) w A1 l1.length l1) (hc1 : l1.length ≤ c1) (hC3 : Kd.C (Kd.int .u8) w A3 l3.length l3) (hc3 : l3.length ≤ c3) (hC4 : Kd.C (Kd.int .u8) w A4 l4.length l4) (hc4 : l4.length ≤ c4)
    (hCy : Kd.C (Kd.int .u8) w Y0 y0.length y0) (hcy : y0.length ≤ d0) (g3 : l3.length < 2 ^ 63) (hok3 : okL 256 l3 = true) (gy : y0.length < 2 ^ 63) (hoky : okL 256 y0 = true)
    (V U W : Nat) (A C D X : List Nat) (k0 : Nat) (hm : plexusref42_Made.f 10 l0 l1 a l3 l4 = some ((V : Int), il A, (U : Int), il C)) (hp : MpE V U A C) (hm6 : plexusref06_Made.f y0 = some ((W : Int), il X)) (hx : CpE W X) (hd : plexusref42_Done.f k0 V (il A) s = some (il D)) (hD : ∀ i ∈ D, i < A.length) (hDn : D.Nodup) (hDl : D.length ≤ A.length) :
    Calls Try.prog 6 #[.agg #[.slice A0 l0.length c0, .slice A1 l1.length c1, .int .u8 a, .slice A3 l3.length c3, .slice A4 l4.length c4], .agg #[.slice Y0 y0.length d0], .int .u16 s] w fun e w' => e = .returned (.bool true) ∧ Below w.heap.size w w' := by
  have hue := Try.underlying29
  have hui := Try.underlying36
  have hug := Try.underlying47
  have hup := Try.underlying38
  have hur := Try.underlying26
  have hu6 := Try.underlying24
  have huc := Try.underlying42
  have EXA := hid (fun W => plexuslaw42_examples.calls true W rfl)
  have MADE := hid (fun W (hb : Below w.heap.size w W) => plexusref42_Made.calls 10 A0 c0 l0 A1 c1 l1 a A3 c3 l3 A4 c4 l4 V (il A) U (il C) W (Kd.C_below hC0 hb) hc0 (Kd.C_below hC1 hb) hc1 (Kd.C_below hC3 hb) hc3 (Kd.C_below hC4 hb) hc4 hm)
  have MAD6 := hid (fun W' (hb : Below w.heap.size w W') => plexusref06_Made.calls Y0 d0 y0 W (il X) W' (Kd.C_below hCy hb) hcy hm6)
  have HROW3 := hid (fun W (hb : Below w.heap.size w W) => (show (Kd.int .u8).C W A3 l3.length l3 from Kd.C_below hC3 hb))
  have HROWY := hid (fun W (hb : Below w.heap.size w W) => (show (Kd.int .u8).C W Y0 y0.length y0 from Kd.C_below hCy hb))
  clear hC0 hC1 hC3 hC4 hm hCy hm6
  go_enter Try.func6, Try.ntmps6
  go_upto_region 1 with (fail)
  obtain ⟨w0, hw0⟩ : ∃ w0, (w.alloc (.cells #[.slice A0 l0.length c0, .slice A1 l1.length c1, .int .u8 a, .slice A3 l3.length c3, .slice A4 l4.length c4] 26)).alloc (.cells #[.slice Y0 y0.length d0] 24) = w0 := ⟨_, rfl⟩
  have hb0 : Below w.heap.size w w0 := by rw [← hw0]; exact below_alloc (below_alloc (Below.refl _ _) _) _
  have kr : Blk w0 w.heap.size 26 #[.slice A0 l0.length c0, .slice A1 l1.length c1, .int .u8 a, .slice A3 l3.length c3, .slice A4 l4.length c4] := by
    have k : Blk (w.alloc (.cells #[.slice A0 l0.length c0, .slice A1 l1.length c1, .int .u8 a, .slice A3 l3.length c3, .slice A4 l4.length c4] 26)) w.heap.size _ _ := Blk.new _ _ _
    rw [← hw0]; exact k.below (below_alloc (Below.refl _ _) _) k.lt
  have ko : Blk w0 (w.heap.size + 1) 24 #[.slice Y0 y0.length d0] := by
    have k := Blk.new (w.alloc (.cells #[.slice A0 l0.length c0, .slice A1 l1.length c1, .int .u8 a, .slice A3 l3.length c3, .slice A4 l4.length c4] 26)) 24 #[.slice Y0 y0.length d0]
    rw [hw0] at k
    simpa using k
  have HRAW := hid (fun W (hb : Below w0.heap.size w0 W) => (show W.cell? ⟨w.heap.size, 0, none⟩ = some (.slice A0 l0.length c0) ∧ W.cell? ⟨w.heap.size, 1, none⟩ = some (.slice A1 l1.length c1) ∧ W.cell? ⟨w.heap.size, 2, none⟩ = some (.int .u8 a) ∧ W.cell? ⟨w.heap.size, 3, none⟩ = some (.slice A3 l3.length c3) ∧ W.cell? ⟨w.heap.size, 4, none⟩ = some (.slice A4 l4.length c4) from by
    have k := kr.below hb kr.lt
    exact ⟨(k.cell 0).trans rfl, (k.cell 1).trans rfl, (k.cell 2).trans rfl, (k.cell 3).trans rfl, (k.cell 4).trans rfl⟩))
  have HY := hid (fun W (hb : Below w0.heap.size w0 W) => (show W.cell? ⟨w.heap.size + 1, 0, none⟩ = some (.slice Y0 y0.length d0) from by
    have k := ko.below hb ko.lt
    exact (k.cell 0).trans rfl))
  rw [hw0]
  clear hw0 kr ko
  go_upto_region 4 with (go_at_call 8; refine (EXA.out _).mono ?_; rintro e w1 ⟨rfl, hb1⟩)
  obtain ⟨qr0, qr1, qr2, qr3, qr4⟩ := HRAW.out _ hb1
  go_upto_region 5 with (go_at_call 9; refine (MADE.out _ (by exact below_then hb0 hb0.size hb1)).mono ?_; rintro e w3 ⟨va, vc, rfl, hra, hrc, hb3⟩; obtain ⟨XA, cA, rfl, hcA, IA⟩ := Kd.R_reads hra; obtain ⟨XC, cC, rfl, hcC, IC_⟩ := Kd.R_reads hrc; clear qr0 qr1 qr2 qr3 qr4)
  obtain ⟨w4, hw4⟩ : ∃ w4, w3.alloc (.cells #[.int .i64 V, .slice XA (il A).length cA, .int .i64 U, .slice XC (il C).length cC] 38) = w4 := ⟨_, rfl⟩
  have hb34 : Below w3.heap.size w3 w4 := by rw [← hw4]; exact below_alloc (Below.refl _ _) _
  have hb03 : Below w0.heap.size w0 w3 := below_then hb1 hb1.size hb3
  have hb04 : Below w0.heap.size w0 w4 := below_then hb03 hb03.size hb34
  have kp : Blk w4 w3.heap.size 38 #[.int .i64 V, .slice XA (il A).length cA, .int .i64 U, .slice XC (il C).length cC] := by rw [← hw4]; exact Blk.new _ _ _
  obtain ⟨gp, hgp⟩ : ∃ gp, w3.heap.size = gp := ⟨_, rfl⟩
  have HA4 := hid (fun W (hb : Below w4.heap.size w4 W) => (show (Kd.int .u64).C W XA (il A).length (il A) from Kd.C_below (Kd.C_below IA hb34) hb))
  have HC4 := hid (fun W (hb : Below w4.heap.size w4 W) => (show (Kd.int .u64).C W XC (il C).length (il C) from Kd.C_below (Kd.C_below IC_ hb34) hb))
  rw [hw4]
  rw [hgp] at kp ⊢
  have HP := hid (fun W (hb : Below w4.heap.size w4 W) => (show W.cell? ⟨gp, 0, none⟩ = some (.int .i64 V) ∧ W.cell? ⟨gp, 1, none⟩ = some (.slice XA (il A).length cA) ∧ W.cell? ⟨gp, 2, none⟩ = some (.int .i64 U) ∧ W.cell? ⟨gp, 3, none⟩ = some (.slice XC (il C).length cC) from by
    have k := kp.below hb kp.lt
    exact ⟨(k.cell 0).trans rfl, (k.cell 1).trans rfl, (k.cell 2).trans rfl, (k.cell 3).trans rfl⟩))
  clear hw4 IA IC_ hb34 hgp hra hrc kp hb1 hb3 hb03 MADE
  have hb4 : Below w.heap.size w w4 := below_then hb0 hb0.size hb04
  have qy := HY.out _ hb04
  go_upto_region 6 with (go_at_call 24; refine (MAD6.out _ (by exact hb4)).mono ?_; rintro e w5 ⟨vx, rfl, hrx, hb5⟩; obtain ⟨XX, cX, rfl, hcX, IX⟩ := Kd.R_reads hrx; clear hrx qy)
  obtain ⟨w6, hw6⟩ : ∃ w6, w5.alloc (.cells #[.int .i64 W, .slice XX (il X).length cX] tI) = w6 := ⟨_, rfl⟩
  have hb56 : Below w5.heap.size w5 w6 := by rw [← hw6]; exact below_alloc (Below.refl _ _) _
  have kc : Blk w6 w5.heap.size tI #[.int .i64 W, .slice XX (il X).length cX] := by rw [← hw6]; exact Blk.new _ _ _
  obtain ⟨gc, hgc⟩ : ∃ gc, w5.heap.size = gc := ⟨_, rfl⟩
  have hgc4 : w4.heap.size ≤ gc := by rw [← hgc]; exact hb5.size
  have hb46 : Below w4.heap.size w4 w6 := below_then hb5 hb5.size hb56
  have IX6 := Kd.C_below IX hb56
  rw [hw6]
  rw [hgc] at kc ⊢
  clear hw6 hgc IX MAD6 hb5 hb56
  rename_i K1 hK1 K hK
  have TAIL : ∀ (z21 z22 z23 z24 z25 z26 z27 z28 z29 z30 z31 z32 z33 z34 z35 z36 z37 z38 z39 : Value) (wl : World), Cst w4 gc wl → K1 { tmps := #[.agg #[.slice A0 l0.length c0, .slice A1 l1.length c1, .int .u8 a, .slice A3 l3.length c3, .slice A4 l4.length c4], .agg #[.slice Y0 y0.length d0], .int .u16 s, .pointer (some ⟨w.heap.size, 0, none⟩), .pointer (some ⟨w.heap.size + 1, 0, none⟩), undef, .bool false, .bool true, .pointer (some ⟨gp, 0, none⟩), .pointer (some ⟨gc, 0, none⟩), undef, undef, undef, undef, undef, .bool true, .bool true, .bool false, .agg #[.slice A0 l0.length c0, .slice A1 l1.length c1, .int .u8 a, .slice A3 l3.length c3, .slice A4 l4.length c4], .agg #[.int .i64 V, .slice XA (il A).length cA, .int .i64 U, .slice XC (il C).length cC], .agg #[.slice Y0 y0.length d0], z21, z22, z23, z24, z25, z26, z27, z28, z29, z30, z31, z32, z33, z34, z35, z36, z37, z38, z39, undef, undef, undef, undef, undef, undef, undef, undef, undef, undef, undef, undef, undef, undef, undef, undef, undef, undef, undef, undef, undef, undef, undef, undef, undef, undef, undef, undef, undef, undef, undef, undef, undef, undef, undef, undef, undef, undef, undef, undef, undef, undef, undef, undef, undef, undef, undef, undef, undef, undef, undef, undef, undef, undef, undef, undef, undef, undef, undef, undef, undef, undef, undef, undef, undef, undef, undef, undef, undef, undef, undef, undef, undef, undef, undef, undef, undef, undef, undef, undef, undef, undef, undef, undef, undef, undef, undef, undef, undef, undef, undef, undef, undef], defers := [] } wl := by
    intro z21 z22 z23 z24 z25 z26 z27 z28 z29 z30 z31 z32 z33 z34 z35 z36 z37 z38 z39 wl hcst
    refine hK1 _ _ ?_
    clear hK1 hK K hx hb46 kc IX6 hcX X W XX cX
    obtain ⟨hb4l, W, X, XX, cX, hx, kc, hcX, IX⟩ := hcst
    have hb0l : Below w.heap.size w wl := below_then hb4 hb4.size hb4l
    have hb00l : Below w0.heap.size w0 wl := below_then hb04 hb04.size hb4l
    exact then_t1 (fun i => (#[.agg #[.slice A0 l0.length c0, .slice A1 l1.length c1, .int .u8 a, .slice A3 l3.length c3, .slice A4 l4.length c4], .agg #[.slice Y0 y0.length d0], .int .u16 s, .pointer (some ⟨w.heap.size, 0, none⟩), .pointer (some ⟨w.heap.size + 1, 0, none⟩), undef, .bool false, .bool true, .pointer (some ⟨gp, 0, none⟩), .pointer (some ⟨gc, 0, none⟩), undef, undef, undef, undef, undef, .bool true, .bool true, .bool false, .agg #[.slice A0 l0.length c0, .slice A1 l1.length c1, .int .u8 a, .slice A3 l3.length c3, .slice A4 l4.length c4], .agg #[.int .i64 V, .slice XA (il A).length cA, .int .i64 U, .slice XC (il C).length cC], .agg #[.slice Y0 y0.length d0], z21, z22, z23, z24, z25, z26, z27, z28, z29, z30, z31, z32, z33, z34, z35, z36, z37, z38, z39, undef, undef, undef, undef, undef, undef, undef, undef, undef, undef, undef, undef, undef, undef, undef, undef, undef, undef, undef, undef, undef, undef, undef, undef, undef, undef, undef, undef, undef, undef, undef, undef, undef, undef, undef, undef, undef, undef, undef, undef, undef, undef, undef, undef, undef, undef, undef, undef, undef, undef, undef, undef, undef, undef, undef, undef, undef, undef, undef, undef, undef, undef, undef, undef, undef, undef, undef, undef, undef, undef, undef, undef, undef, undef, undef, undef, undef, undef, undef, undef, undef, undef, undef, undef, undef, undef, undef, undef, undef, undef, undef, undef, undef] : Array Value).getD i undef) w wl hb0l gp gc V U W k0 A C D X l3 s XA XC XX A3 cA cC cX c3
      (hid fun W' hb => HP.out W' (below_then hb4l hb4l.size hb)) (hid fun W' hb => HA4.out W' (below_then hb4l hb4l.size hb)) (hid fun W' hb => HC4.out W' (below_then hb4l hb4l.size hb))
      (hid fun W' hb => (HRAW.out W' (below_then hb00l hb00l.size hb)).2.2.2.1) (hid fun W' hb => HROW3.out W' (below_then hb0l hb0l.size hb)) kc hcA hcC hcX IX hp hx g3 hok3 hd hD hDn hDl
  have hb06 : Below w0.heap.size w0 w6 := below_then hb04 hb04.size hb46
  obtain ⟨qr0, qr1, qr2, qr3, qr4⟩ := HRAW.out _ hb06
  clear qr0 qr1 qr3 qr4
  clear hK1
  by_cases hk : Int.tmod a 2 = 0
  · go_upto_region 7 with (fail)
    have hU20 : U < 2 ^ 20 := Nat.lt_of_le_of_lt hp.u6 (by decide)
    have HSH := hid (fun W' (hb : Below w4.heap.size w4 W') => nlc_of (HROWY.out W' (below_then hb4 hb4.size hb)) hoky)
    obtain ⟨him, hx2⟩ := image06 (nl y0) hp
    obtain ⟨X2, hX2⟩ : ∃ X2, imL C (shL (nl y0) U) = X2 := ⟨_, rfl⟩
    rw [hX2] at him hx2
    have lS := hid (show (il (shL (nl y0) U)).length = U from by rw [il_length, shL_len])
    clear hX2 qr2
    refine (wpIn_wide (n := 8)).1 ?_
    obtain ⟨vv, hvv⟩ : ∃ vv : Nat → Value, vv = fun i => (#[.pointer (some ⟨gp, 2, none⟩), .pointer (some ⟨gp, 2, none⟩), .int .i64 U, .pointer (some ⟨gp, 2, none⟩), .agg #[.int .i64 U, .slice XC (il C).length cC], .pointer (some ⟨gp, 2, none⟩), .pointer (some ⟨gp, 2, none⟩), .int .i64 U, .pointer (some ⟨w.heap.size + 1, 0, none⟩), .slice Y0 y0.length d0] : Array Value).getD i undef := ⟨_, rfl⟩
    have mk : ∀ (L : Nat → Bool) (a' : Act) (w' : World), a' = ({ tmps := #[.agg #[.slice A0 l0.length c0, .slice A1 l1.length c1, .int .u8 a, .slice A3 l3.length c3, .slice A4 l4.length c4], .agg #[.slice Y0 y0.length d0], .int .u16 s, .pointer (some ⟨w.heap.size, 0, none⟩), .pointer (some ⟨w.heap.size + 1, 0, none⟩), undef, .bool false, .bool true, .pointer (some ⟨gp, 0, none⟩), .pointer (some ⟨gc, 0, none⟩), undef, undef, undef, undef, undef, .bool true, .bool true, .bool false, .agg #[.slice A0 l0.length c0, .slice A1 l1.length c1, .int .u8 a, .slice A3 l3.length c3, .slice A4 l4.length c4], .agg #[.int .i64 V, .slice XA (il A).length cA, .int .i64 U, .slice XC (il C).length cC], .agg #[.slice Y0 y0.length d0], .agg #[.int .i64 W, .slice XX (il X).length cX], .pointer (some ⟨w.heap.size, 2, none⟩), .int .u8 a, .int .u8 0, .bool true, a'.tmps.getD ((#[26, 27, 28, 29, 30, 31, 32, 33, 34, 35, 36, 37, 38, 39, 200] : Array Nat).getD (0) 0) undef, a'.tmps.getD ((#[26, 27, 28, 29, 30, 31, 32, 33, 34, 35, 36, 37, 38, 39, 200] : Array Nat).getD (1) 0) undef, a'.tmps.getD ((#[26, 27, 28, 29, 30, 31, 32, 33, 34, 35, 36, 37, 38, 39, 200] : Array Nat).getD (2) 0) undef, a'.tmps.getD ((#[26, 27, 28, 29, 30, 31, 32, 33, 34, 35, 36, 37, 38, 39, 200] : Array Nat).getD (3) 0) undef, a'.tmps.getD ((#[26, 27, 28, 29, 30, 31, 32, 33, 34, 35, 36, 37, 38, 39, 200] : Array Nat).getD (4) 0) undef, a'.tmps.getD ((#[26, 27, 28, 29, 30, 31, 32, 33, 34, 35, 36, 37, 38, 39, 200] : Array Nat).getD (5) 0) undef, a'.tmps.getD ((#[26, 27, 28, 29, 30, 31, 32, 33, 34, 35, 36, 37, 38, 39, 200] : Array Nat).getD (6) 0) undef, a'.tmps.getD ((#[26, 27, 28, 29, 30, 31, 32, 33, 34, 35, 36, 37, 38, 39, 200] : Array Nat).getD (7) 0) undef, a'.tmps.getD ((#[26, 27, 28, 29, 30, 31, 32, 33, 34, 35, 36, 37, 38, 39, 200] : Array Nat).getD (8) 0) undef, a'.tmps.getD ((#[26, 27, 28, 29, 30, 31, 32, 33, 34, 35, 36, 37, 38, 39, 200] : Array Nat).getD (9) 0) undef, a'.tmps.getD ((#[26, 27, 28, 29, 30, 31, 32, 33, 34, 35, 36, 37, 38, 39, 200] : Array Nat).getD (10) 0) undef, a'.tmps.getD ((#[26, 27, 28, 29, 30, 31, 32, 33, 34, 35, 36, 37, 38, 39, 200] : Array Nat).getD (11) 0) undef, a'.tmps.getD ((#[26, 27, 28, 29, 30, 31, 32, 33, 34, 35, 36, 37, 38, 39, 200] : Array Nat).getD (12) 0) undef, a'.tmps.getD ((#[26, 27, 28, 29, 30, 31, 32, 33, 34, 35, 36, 37, 38, 39, 200] : Array Nat).getD (13) 0) undef, undef, undef, undef, undef, undef, undef, undef, undef, undef, undef, undef, undef, undef, undef, undef, undef, undef, undef, undef, undef, undef, undef, undef, undef, undef, undef, undef, undef, undef, undef, undef, undef, undef, undef, undef, undef, undef, undef, undef, undef, undef, undef, undef, undef, undef, undef, undef, undef, undef, undef, undef, undef, undef, undef, undef, undef, undef, undef, undef, undef, undef, undef, undef, undef, undef, undef, undef, undef, undef, undef, undef, undef, undef, undef, undef, undef, undef, undef, undef, undef, undef, undef, undef, undef, undef, undef, undef, undef, undef, undef, undef, undef, undef], defers := [] } : Act) → (∀ j < 10, L j = true → a'.tmps.getD ((#[26, 27, 28, 29, 30, 31, 32, 33, 34, 35, 36, 37, 38, 39, 200] : Array Nat).getD (j) 0) undef = vv j) → (fun (L : Nat → Bool) (wz : World) (y : Nat → Value) => S7 w4 w6 gc U (nl y0) X2 L wz (y 10) (y 11) (y 12) (y 13)) L w' (fun m => a'.tmps.getD ((#[26, 27, 28, 29, 30, 31, 32, 33, 34, 35, 36, 37, 38, 39, 200] : Array Nat).getD (m) 0) undef) → ∃ y : Nat → Value, a' = ({ tmps := #[.agg #[.slice A0 l0.length c0, .slice A1 l1.length c1, .int .u8 a, .slice A3 l3.length c3, .slice A4 l4.length c4], .agg #[.slice Y0 y0.length d0], .int .u16 s, .pointer (some ⟨w.heap.size, 0, none⟩), .pointer (some ⟨w.heap.size + 1, 0, none⟩), undef, .bool false, .bool true, .pointer (some ⟨gp, 0, none⟩), .pointer (some ⟨gc, 0, none⟩), undef, undef, undef, undef, undef, .bool true, .bool true, .bool false, .agg #[.slice A0 l0.length c0, .slice A1 l1.length c1, .int .u8 a, .slice A3 l3.length c3, .slice A4 l4.length c4], .agg #[.int .i64 V, .slice XA (il A).length cA, .int .i64 U, .slice XC (il C).length cC], .agg #[.slice Y0 y0.length d0], .agg #[.int .i64 W, .slice XX (il X).length cX], .pointer (some ⟨w.heap.size, 2, none⟩), .int .u8 a, .int .u8 0, .bool true, y 0, y 1, y 2, y 3, y 4, y 5, y 6, y 7, y 8, y 9, y 10, y 11, y 12, y 13, undef, undef, undef, undef, undef, undef, undef, undef, undef, undef, undef, undef, undef, undef, undef, undef, undef, undef, undef, undef, undef, undef, undef, undef, undef, undef, undef, undef, undef, undef, undef, undef, undef, undef, undef, undef, undef, undef, undef, undef, undef, undef, undef, undef, undef, undef, undef, undef, undef, undef, undef, undef, undef, undef, undef, undef, undef, undef, undef, undef, undef, undef, undef, undef, undef, undef, undef, undef, undef, undef, undef, undef, undef, undef, undef, undef, undef, undef, undef, undef, undef, undef, undef, undef, undef, undef, undef, undef, undef, undef, undef, undef, undef], defers := [] } : Act) ∧ (∀ j < 10, L j = true → y j = vv j) ∧ (fun (L : Nat → Bool) (wz : World) (y : Nat → Value) => S7 w4 w6 gc U (nl y0) X2 L wz (y 10) (y 11) (y 12) (y 13)) L w' y := fun L a' w' h1 h2 h3 => ⟨fun m => a'.tmps.getD ((#[26, 27, 28, 29, 30, 31, 32, 33, 34, 35, 36, 37, 38, 39, 200] : Array Nat).getD (m) 0) undef, h1, h2, h3⟩
    refine wpIn_region_inv2 (by kernel_rfl) (fun L aI wI => ∃ y : Nat → Value, aI = ({ tmps := #[.agg #[.slice A0 l0.length c0, .slice A1 l1.length c1, .int .u8 a, .slice A3 l3.length c3, .slice A4 l4.length c4], .agg #[.slice Y0 y0.length d0], .int .u16 s, .pointer (some ⟨w.heap.size, 0, none⟩), .pointer (some ⟨w.heap.size + 1, 0, none⟩), undef, .bool false, .bool true, .pointer (some ⟨gp, 0, none⟩), .pointer (some ⟨gc, 0, none⟩), undef, undef, undef, undef, undef, .bool true, .bool true, .bool false, .agg #[.slice A0 l0.length c0, .slice A1 l1.length c1, .int .u8 a, .slice A3 l3.length c3, .slice A4 l4.length c4], .agg #[.int .i64 V, .slice XA (il A).length cA, .int .i64 U, .slice XC (il C).length cC], .agg #[.slice Y0 y0.length d0], .agg #[.int .i64 W, .slice XX (il X).length cX], .pointer (some ⟨w.heap.size, 2, none⟩), .int .u8 a, .int .u8 0, .bool true, y 0, y 1, y 2, y 3, y 4, y 5, y 6, y 7, y 8, y 9, y 10, y 11, y 12, y 13, undef, undef, undef, undef, undef, undef, undef, undef, undef, undef, undef, undef, undef, undef, undef, undef, undef, undef, undef, undef, undef, undef, undef, undef, undef, undef, undef, undef, undef, undef, undef, undef, undef, undef, undef, undef, undef, undef, undef, undef, undef, undef, undef, undef, undef, undef, undef, undef, undef, undef, undef, undef, undef, undef, undef, undef, undef, undef, undef, undef, undef, undef, undef, undef, undef, undef, undef, undef, undef, undef, undef, undef, undef, undef, undef, undef, undef, undef, undef, undef, undef, undef, undef, undef, undef, undef, undef, undef, undef, undef, undef, undef, undef], defers := [] } : Act) ∧ (∀ j < 10, L j = true → y j = vv j) ∧ (fun (L : Nat → Bool) (wz : World) (y : Nat → Value) => S7 w4 w6 gc U (nl y0) X2 L wz (y 10) (y 11) (y 12) (y 13)) L wI y) ?acyc ?start ?step ?rdone
    case acyc => exact fun i o ho => acyc_of2 (by kernel_rfl) i o ho
    case start => exact mk (fun _ => false) _ _ rfl (fun _ _ h => by cases h) (by exact ⟨below_drew hb46, (fun _ => below_drew (Below.refl _ _)), (fun h => nomatch h), (fun h => nomatch h), (fun h => nomatch h), (fun h => nomatch h), (fun h => nomatch h)⟩)
    case step =>
      rintro i o L a wx ho hLi hdep ⟨y, rfl, hy, hWI⟩ K hK
      have hi : i < 15 := (Array.getElem?_eq_some_iff.1 ho).1
      rcases i with _ | _ | _ | _ | _ | _ | _ | _ | _ | _ | _ | _ | _ | _ | _ | i
      · obtain rfl := Option.some.inj ho
        clear hdep ho
        go_simp
        refine hK _ _ (mk _ _ _ rfl ?_ ?_)
        rotate_left
        · exact hWI.q 0 (by decide)
        · intro j hj h
          rcases j with _ | _ | _ | _ | _ | _ | _ | _ | _ | _ | j
          · rw [hvv]; rfl
          · exact hy 1 (by decide) h
          · exact hy 2 (by decide) h
          · exact hy 3 (by decide) h
          · exact hy 4 (by decide) h
          · exact hy 5 (by decide) h
          · exact hy 6 (by decide) h
          · exact hy 7 (by decide) h
          · exact hy 8 (by decide) h
          · exact hy 9 (by decide) h
          · exfalso; omega
      · obtain rfl := Option.some.inj ho
        have d0 : L 0 = true := hdep ⟨0, .data⟩ (by simp) rfl
        have e0 : y 0 = .pointer (some ⟨gp, 2, none⟩) := (hy 0 (by omega) d0).trans (by rw [hvv]; rfl)
        clear hdep ho
        rw [e0]
        go_simp
        refine hK _ _ (mk _ _ _ rfl ?_ ?_)
        rotate_left
        · exact hWI.q 1 (by decide)
        · intro j hj h
          rcases j with _ | _ | _ | _ | _ | _ | _ | _ | _ | _ | j
          · rw [hvv]; rfl
          · rw [hvv]; rfl
          · exact hy 2 (by decide) h
          · exact hy 3 (by decide) h
          · exact hy 4 (by decide) h
          · exact hy 5 (by decide) h
          · exact hy 6 (by decide) h
          · exact hy 7 (by decide) h
          · exact hy 8 (by decide) h
          · exact hy 9 (by decide) h
          · exfalso; omega
      · obtain rfl := Option.some.inj ho
        have d1 : L 1 = true := hdep ⟨1, .data⟩ (by simp) rfl
        have e1 : y 1 = .pointer (some ⟨gp, 2, none⟩) := (hy 1 (by omega) d1).trans (by rw [hvv]; rfl)
        clear hdep ho
        rw [e1]
        obtain ⟨q0, q1, q2, q3⟩ := HP.out _ hWI.bel
        go_simp
        refine hK _ _ (mk _ _ _ rfl ?_ ?_)
        rotate_left
        · exact hWI.q 2 (by decide)
        · intro j hj h
          rcases j with _ | _ | _ | _ | _ | _ | _ | _ | _ | _ | j
          · exact hy 0 (by decide) h
          · rw [hvv]; rfl
          · rw [hvv]; rfl
          · exact hy 3 (by decide) h
          · exact hy 4 (by decide) h
          · exact hy 5 (by decide) h
          · exact hy 6 (by decide) h
          · exact hy 7 (by decide) h
          · exact hy 8 (by decide) h
          · exact hy 9 (by decide) h
          · exfalso; omega
      · obtain rfl := Option.some.inj ho
        clear hdep ho
        go_simp
        refine hK _ _ (mk _ _ _ rfl ?_ ?_)
        rotate_left
        · exact hWI.q 3 (by decide)
        · intro j hj h
          rcases j with _ | _ | _ | _ | _ | _ | _ | _ | _ | _ | j
          · exact hy 0 (by decide) h
          · exact hy 1 (by decide) h
          · exact hy 2 (by decide) h
          · rw [hvv]; rfl
          · exact hy 4 (by decide) h
          · exact hy 5 (by decide) h
          · exact hy 6 (by decide) h
          · exact hy 7 (by decide) h
          · exact hy 8 (by decide) h
          · exact hy 9 (by decide) h
          · exfalso; omega
      · obtain rfl := Option.some.inj ho
        have d3 : L 3 = true := hdep ⟨3, .data⟩ (by simp) rfl
        have e3 : y 3 = .pointer (some ⟨gp, 2, none⟩) := (hy 3 (by omega) d3).trans (by rw [hvv]; rfl)
        clear hdep ho
        rw [e3]
        obtain ⟨q0, q1, q2, q3⟩ := HP.out _ hWI.bel
        go_simp
        refine hK _ _ (mk _ _ _ rfl ?_ ?_)
        rotate_left
        · exact hWI.q 4 (by decide)
        · intro j hj h
          rcases j with _ | _ | _ | _ | _ | _ | _ | _ | _ | _ | j
          · exact hy 0 (by decide) h
          · exact hy 1 (by decide) h
          · exact hy 2 (by decide) h
          · rw [hvv]; rfl
          · rw [hvv]; rfl
          · exact hy 5 (by decide) h
          · exact hy 6 (by decide) h
          · exact hy 7 (by decide) h
          · exact hy 8 (by decide) h
          · exact hy 9 (by decide) h
          · exfalso; omega
      · obtain rfl := Option.some.inj ho
        clear hdep ho
        go_simp
        refine hK _ _ (mk _ _ _ rfl ?_ ?_)
        rotate_left
        · exact hWI.q 5 (by decide)
        · intro j hj h
          rcases j with _ | _ | _ | _ | _ | _ | _ | _ | _ | _ | j
          · exact hy 0 (by decide) h
          · exact hy 1 (by decide) h
          · exact hy 2 (by decide) h
          · exact hy 3 (by decide) h
          · exact hy 4 (by decide) h
          · rw [hvv]; rfl
          · exact hy 6 (by decide) h
          · exact hy 7 (by decide) h
          · exact hy 8 (by decide) h
          · exact hy 9 (by decide) h
          · exfalso; omega
      · obtain rfl := Option.some.inj ho
        have d5 : L 5 = true := hdep ⟨5, .data⟩ (by simp) rfl
        have e5 : y 5 = .pointer (some ⟨gp, 2, none⟩) := (hy 5 (by omega) d5).trans (by rw [hvv]; rfl)
        clear hdep ho
        rw [e5]
        go_simp
        refine hK _ _ (mk _ _ _ rfl ?_ ?_)
        rotate_left
        · exact hWI.q 6 (by decide)
        · intro j hj h
          rcases j with _ | _ | _ | _ | _ | _ | _ | _ | _ | _ | j
          · exact hy 0 (by decide) h
          · exact hy 1 (by decide) h
          · exact hy 2 (by decide) h
          · exact hy 3 (by decide) h
          · exact hy 4 (by decide) h
          · rw [hvv]; rfl
          · rw [hvv]; rfl
          · exact hy 7 (by decide) h
          · exact hy 8 (by decide) h
          · exact hy 9 (by decide) h
          · exfalso; omega
      · obtain rfl := Option.some.inj ho
        have d6 : L 6 = true := hdep ⟨6, .data⟩ (by simp) rfl
        have e6 : y 6 = .pointer (some ⟨gp, 2, none⟩) := (hy 6 (by omega) d6).trans (by rw [hvv]; rfl)
        clear hdep ho
        rw [e6]
        obtain ⟨q0, q1, q2, q3⟩ := HP.out _ hWI.bel
        go_simp
        refine hK _ _ (mk _ _ _ rfl ?_ ?_)
        rotate_left
        · exact hWI.q 7 (by decide)
        · intro j hj h
          rcases j with _ | _ | _ | _ | _ | _ | _ | _ | _ | _ | j
          · exact hy 0 (by decide) h
          · exact hy 1 (by decide) h
          · exact hy 2 (by decide) h
          · exact hy 3 (by decide) h
          · exact hy 4 (by decide) h
          · exact hy 5 (by decide) h
          · rw [hvv]; rfl
          · rw [hvv]; rfl
          · exact hy 8 (by decide) h
          · exact hy 9 (by decide) h
          · exfalso; omega
      · obtain rfl := Option.some.inj ho
        clear hdep ho
        go_simp
        refine hK _ _ (mk _ _ _ rfl ?_ ?_)
        rotate_left
        · exact hWI.q 8 (by decide)
        · intro j hj h
          rcases j with _ | _ | _ | _ | _ | _ | _ | _ | _ | _ | j
          · exact hy 0 (by decide) h
          · exact hy 1 (by decide) h
          · exact hy 2 (by decide) h
          · exact hy 3 (by decide) h
          · exact hy 4 (by decide) h
          · exact hy 5 (by decide) h
          · exact hy 6 (by decide) h
          · exact hy 7 (by decide) h
          · rw [hvv]; rfl
          · exact hy 9 (by decide) h
          · exfalso; omega
      · obtain rfl := Option.some.inj ho
        have d8 : L 8 = true := hdep ⟨8, .data⟩ (by simp) rfl
        have e8 : y 8 = .pointer (some ⟨w.heap.size + 1, 0, none⟩) := (hy 8 (by omega) d8).trans (by rw [hvv]; rfl)
        clear hdep ho
        rw [e8]
        have qy := HY.out _ (below_then hb04 hb04.size hWI.bel)
        go_simp
        refine hK _ _ (mk _ _ _ rfl ?_ ?_)
        rotate_left
        · exact hWI.q 9 (by decide)
        · intro j hj h
          rcases j with _ | _ | _ | _ | _ | _ | _ | _ | _ | _ | j
          · exact hy 0 (by decide) h
          · exact hy 1 (by decide) h
          · exact hy 2 (by decide) h
          · exact hy 3 (by decide) h
          · exact hy 4 (by decide) h
          · exact hy 5 (by decide) h
          · exact hy 6 (by decide) h
          · exact hy 7 (by decide) h
          · rw [hvv]; rfl
          · rw [hvv]; rfl
          · exfalso; omega
      · obtain rfl := Option.some.inj ho
        have d7 : L 7 = true := hdep ⟨7, .data⟩ (by simp) rfl
        have d9 : L 9 = true := hdep ⟨9, .data⟩ (by simp) rfl
        have e7 : y 7 = .int .i64 U := (hy 7 (by omega) d7).trans (by rw [hvv]; rfl)
        have e9 : y 9 = .slice Y0 y0.length d0 := (hy 9 (by omega) d9).trans (by rw [hvv]; rfl)
        clear hdep ho
        rw [e7, e9]
        have SH := hid (shuffled_any Y0 y0.length d0 U (nl y0) _ (HSH.out _ hWI.bel) gy hU20)
        go_simp
        gi_wp2_with (refine ⟨trivial, ?_⟩; gi_at_call 23; refine (callsIn_wide.2 SH.out).mono ?_; rintro e w' ⟨v, rfl, hown, hbw⟩)
        refine mk _ _ _ rfl ?_ ?_
        rotate_left
        · exact hWI.call10 hLi hbw hown
        · intro j hj h
          rcases j with _ | _ | _ | _ | _ | _ | _ | _ | _ | _ | j
          · exact hy 0 (by decide) h
          · exact hy 1 (by decide) h
          · exact hy 2 (by decide) h
          · exact hy 3 (by decide) h
          · exact hy 4 (by decide) h
          · exact hy 5 (by decide) h
          · exact hy 6 (by decide) h
          · rw [hvv]; rfl
          · exact hy 8 (by decide) h
          · rw [hvv]; rfl
          · exfalso; omega
      · obtain rfl := Option.some.inj ho
        have d4 : L 4 = true := hdep ⟨4, .data⟩ (by simp) rfl
        have d10 : L 10 = true := hdep ⟨10, .data⟩ (by simp) rfl
        have e4 : y 4 = .agg #[.int .i64 U, .slice XC (il C).length cC] := (hy 4 (by omega) d4).trans (by rw [hvv]; rfl)
        clear hdep ho
        rw [e4]
        have n14 : L 14 = false := (by obtain ⟨_, b, c, d⟩ := hWI.no; exact d (c (b hLi)))
        obtain ⟨A10, c10, e10, hc10, I10⟩ := hWI.h10 d10 n14
        rw [e10]
        have IMC := plexusref06_Image.calls U XC cC (il C) A10 c10 (il (shL (nl y0) U)) U (il X2) _ (HC4.out _ hWI.bel) hcC (by rw [lS.out]; exact I10) (by rw [lS.out]; exact hc10) him
        rw [lS.out] at IMC
        replace IMC := hid IMC
        go_simp
        gi_wp2_with (refine ⟨trivial, ?_⟩; gi_at_call 25; refine (callsIn_wide.2 IMC.out).mono ?_; rintro e w' ⟨v, rfl, hr, hbw⟩)
        refine mk _ _ _ rfl ?_ ?_
        rotate_left
        · exact (by have hh := hWI.call11 hLi d10 hbw hr; rw [e10] at hh; exact hh)
        · intro j hj h
          rcases j with _ | _ | _ | _ | _ | _ | _ | _ | _ | _ | j
          · exact hy 0 (by decide) h
          · exact hy 1 (by decide) h
          · exact hy 2 (by decide) h
          · exact hy 3 (by decide) h
          · rw [hvv]; rfl
          · exact hy 5 (by decide) h
          · exact hy 6 (by decide) h
          · exact hy 7 (by decide) h
          · exact hy 8 (by decide) h
          · exact hy 9 (by decide) h
          · exfalso; omega
      · obtain rfl := Option.some.inj ho
        have d11 : L 11 = true := hdep ⟨11, .data⟩ (by simp) rfl
        clear hdep ho
        obtain ⟨_, v11, e11, hr11⟩ := hWI.h11 d11
        rw [e11]
        go_simp
        refine hK _ _ (mk _ _ _ rfl ?_ ?_)
        rotate_left
        · exact (by have hh := hWI.op12 hLi d11 e11; rw [e11] at hh; exact hh)
        · intro j hj h
          rcases j with _ | _ | _ | _ | _ | _ | _ | _ | _ | _ | j
          · exact hy 0 (by decide) h
          · exact hy 1 (by decide) h
          · exact hy 2 (by decide) h
          · exact hy 3 (by decide) h
          · exact hy 4 (by decide) h
          · exact hy 5 (by decide) h
          · exact hy 6 (by decide) h
          · exact hy 7 (by decide) h
          · exact hy 8 (by decide) h
          · exact hy 9 (by decide) h
          · exfalso; omega
      · obtain rfl := Option.some.inj ho
        have d2 : L 2 = true := hdep ⟨2, .data⟩ (by simp) rfl
        have d12 : L 12 = true := hdep ⟨12, .data⟩ (by simp) rfl
        have e2 : y 2 = .int .i64 U := (hy 2 (by omega) d2).trans (by rw [hvv]; rfl)
        clear hdep ho
        rw [e2]
        obtain ⟨A9, c9, e12, _⟩ := hWI.sl d12
        rw [e12]
        go_simp
        refine hK _ _ (mk _ _ _ rfl ?_ ?_)
        rotate_left
        · exact (by have hh := hWI.op13 hLi d12; rw [e12] at hh; exact hh)
        · intro j hj h
          rcases j with _ | _ | _ | _ | _ | _ | _ | _ | _ | _ | j
          · exact hy 0 (by decide) h
          · exact hy 1 (by decide) h
          · rw [hvv]; rfl
          · exact hy 3 (by decide) h
          · exact hy 4 (by decide) h
          · exact hy 5 (by decide) h
          · exact hy 6 (by decide) h
          · exact hy 7 (by decide) h
          · exact hy 8 (by decide) h
          · exact hy 9 (by decide) h
          · exfalso; omega
      · obtain rfl := Option.some.inj ho
        have d13 : L 13 = true := hdep ⟨13, .data⟩ (by simp) rfl
        have d11 : L 11 = true := hdep ⟨11, .chain⟩ (by simp) rfl
        clear hdep ho
        have nn : L 14 = false := hLi
        obtain ⟨_, e13⟩ := hWI.h13 d13
        obtain ⟨A9, c9, e12, _⟩ := hWI.sl (hWI.h13 d13).1
        have hblk := kc.below (hWI.near nn) kc.lt
        have q0 := (hblk.cell 0).trans rfl
        have q1 := (hblk.cell 1).trans rfl
        have f0 := hblk.frozen 0
        have f1 := hblk.frozen 1
        rw [e13, e12]
        go_simp
        refine hK _ _ (mk _ _ _ rfl ?_ ?_)
        rotate_left
        · exact (by have hh := hWI.store14 d13 hgc4 hblk; rw [e13, e12] at hh; exact hh)
        · intro j hj h
          rcases j with _ | _ | _ | _ | _ | _ | _ | _ | _ | _ | j
          · exact hy 0 (by decide) h
          · exact hy 1 (by decide) h
          · exact hy 2 (by decide) h
          · exact hy 3 (by decide) h
          · exact hy 4 (by decide) h
          · exact hy 5 (by decide) h
          · exact hy 6 (by decide) h
          · exact hy 7 (by decide) h
          · exact hy 8 (by decide) h
          · exact hy 9 (by decide) h
          · exfalso; omega
      · exfalso; omega
    case rdone =>
      rintro L a wq hall ⟨y, rfl, hy, hWI⟩
      obtain ⟨_, kq⟩ := hWI.h14 (hall 14 (by decide))
      obtain ⟨_, _, _, hr⟩ := hWI.sl (hall 12 (by decide))
      obtain ⟨A9, c9, e12, hc9, I9⟩ := Kd.R_reads hr
      rw [e12] at kq
      have hbq := hWI.bel
      go_wp2
      exact ⟨hbq, U, X2, A9, c9, hx2, kq, hc9, I9⟩
  · go_wp2
    exact ⟨hb46, W, X, XX, cX, hx, kc, hcX, IX6⟩
end Go.Proofs.Ytheclfjbedajfaa.Pd
