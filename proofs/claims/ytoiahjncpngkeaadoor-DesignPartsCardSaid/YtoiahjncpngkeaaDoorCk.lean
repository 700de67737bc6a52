/- design.Check, walked: the first part. -/
import Derived.Test.YtoiahjncpngkeaaDoorIt
import Derived.RangeFuncWrites
import Derived.Stop.RegionWithIn
namespace Go.Proofs.YtoiahjncpngkeaaDoor
set_option linter.unusedSimpArgs false
set_option linter.unusedVariables false
open Go.RowKit Go.Lib Go.Shelf Go.Proofs.YtoiahjncpngkeaaDoorW.PrintWords
attribute [local go_sem] Oper.semAt_some

theorem below_undrew {W w1 : World} (h : Below W.drew.heap.size W.drew w1) : Below W.heap.size W w1 := ⟨h.os, h.tape, h.output, h.size, h.block⟩
theorem below_put {B D : Nat} {w W : World} {o : Obj} (h : Below B w W) (hD : B ≤ D) : Below B w (W.putObj D o) :=
  ⟨h.os, h.tape, h.output, by simpa using h.size, fun k hk => (World.putObj_heap_other (by omega)).trans (h.block k hk)⟩
theorem cell_put {W : World} {D : Nat} {o o' : Obj} {a : Addr} {v : Value} (hD : W.heap[D]? = some o) (ho : o.isCells = false) (h : W.cell? a = some v) : (W.putObj D o').cell? a = some v :=
  cell_kept h (grownBy_putObj' W D o') (fun r e => by cases e; exact ⟨o, hD, ho⟩)
theorem deferred_set {W : World} {D : Nat} {ds : Option (List Deferred)} {p : Addr} (v : Value) (hD : W.heap[D]? = some (.deferred ds)) (hp : p.block ≠ D) : (W.setCell p v).heap[D]? = some (.deferred ds) :=
  (Below.heap_setCell W p v D (fun e => hp e.symm)).trans hD
theorem calls_marks {P : Program} {f : FuncId} {fn : Func} {c : Code} {args : Array Value} {w : World} {R : Ending → World → Prop} (n : Nat) (hf : P.funcs[f]? = some fn) (hb : fn.body = some c)
    (h : c.wp P (bodyPostM Fence.wide n P fn R) { tmps := args ++ Array.replicate (fn.ntmps - args.size) undef, defers := [] } w) : Calls P f args w R :=
  callsIn_wide.1 (callsIn_of_wp_marks (n := n) hf hb trivial (wpIn_wide.2 h) rfl)
theorem m_ret {P : Program} {fn : Func} {n : Nat} {R : Ending → World → Prop} {a : Act} {w : World} {v : Value} (hr : (results fn a.tmps).run P w = .ok v w) (hd : a.defers = []) (h : R (.returned v) w) : bodyPostM Fence.wide n P fn R .ret a w := by
  show LeavesInM Fence.wide n P fn a.tmps R a.defers .returning w
  rw [hd]
  exact ⟨v, hr, h⟩
theorem m_ret1 {P : Program} {fn : Func} {n D : Nat} {R : Ending → World → Prop} {a : Act} {w : World} {v : Value} (hd : a.defers = [{ target := .collected D, args := #[] }]) (hD : w.heap[D]? = some (.deferred (some [])))
    (hr : (results fn a.tmps).run P (w.putObj D (.deferred none)) = .ok v (w.putObj D (.deferred none))) (h : R (.returned v) (w.putObj D (.deferred none))) : bodyPostM Fence.wide n P fn R .ret a w := by
  show LeavesInM Fence.wide n P fn a.tmps R a.defers .returning w
  rw [hd]
  exact ⟨by simp, .inl ⟨_, _, rfl, run_takeDeferred hD, v, hr, h⟩⟩

def chkL (xV : Int) (bs : List Nat) (T V K L : Int) : Int :=
  if rightB T V K L then if xV = V ∧ (∀ b ∈ bs, ((cnt b 64 : Nat) : Int) = K) ∧ ∀ s ∈ dnL V.toNat T.toNat 0 0, ((thr bs s : Nat) : Int) = L then 0 else 90 else 1

set_option maxHeartbeats 400000 in
theorem sets_any (n k : Int) (w : World) : Calls Tryd.prog 35 #[.int .i64 n, .int .i64 k] w fun e w' =>
    e = .returned (.func (.func 57) #[] #[.pointer (some ⟨w.heap.size, 0, none⟩), .pointer (some ⟨w.heap.size + 1, 0, none⟩)]) ∧ w' = (w.alloc (.cells #[.int .i64 n] 3)).alloc (.cells #[.int .i64 k] 3) := by
  go_enter Tryd.func35, Tryd.ntmps35
  go_wp2
  go_ret
  exact ⟨rfl, rfl⟩

set_option maxHeartbeats 2000000 in
set_option maxRecDepth 100000 in
theorem check_any (xV : Int) (A : Option Addr) (n c : Nat) (bs : List Nat) (T V K L : Int) (w : World) (hB : BlC w A n bs) (hn : n < 2 ^ 40) (hb14 : ∀ b ∈ bs, b < 16384) :
    Calls Tryd.prog 12 #[.agg #[.int .i64 xV, .slice A n c], .agg #[.int .i64 T, .int .i64 V, .int .i64 K, .int .i64 L]] w fun e w' => e = .returned (.int .i64 (chkL xV bs T V K L)) ∧ Below w.heap.size w w' := by
  have hu := Tryd.underlying26
  have hu2 := Tryd.underlying31
  obtain ⟨hn1, _⟩ := id hB
  subst hn1
  have HB14 := hid hb14
  clear hb14
  refine calls_marks 8 Tryd.func12 rfl ?_
  simp only [Tryd.ntmps12, List.size_toArray, List.length_cons, List.length_nil, Nat.reduceAdd, Nat.reduceSub, Array.replicate_succ, Array.replicate_zero, List.push_toArray, List.append_toArray, List.nil_append, List.cons_append]
  cases hr : rightB T V K L
  · have HR := hid hr
    have HE := hid (show chkL xV bs T V K L = 1 from by unfold chkL; rw [hr]; rfl)
    clear hr
    go_wp2_with (go_at_call 33; refine (right_any T V K L _).mono ?_; rintro e w' ⟨rfl, hb1⟩; rw [HR.out]; obtain ⟨hc1, hf1⟩ := bcell hb1; have hz1 : w.heap.size + 1 + 1 < w'.heap.size := by have := hb1.size; simp at this; omega)
    refine m_ret (v := .int .i64 1) (by simp [results, Tryd.results12, go_sem, hc1, hz1]) rfl ⟨by rw [HE.out], ?_⟩
    exact (below_then (below_alloc (below_alloc (below_alloc (Below.refl _ _) _) _) _) (by simp; omega) hb1).setCell (by simp; omega) _
  · have HR := hid hr
    obtain ⟨b1, b2, b3, ⟨b4, b5⟩, b6, b7, b8⟩ := rightB_iff.1 hr
    clear hr
    by_cases hV : xV = V
    · subst hV
      go_wp2_with (go_at_call 33; refine (right_any T xV K L _).mono ?_; rintro e w' ⟨rfl, hb1⟩; rw [HR.out]; obtain ⟨hc1, hf1⟩ := bcell hb1; have hz1 : w.heap.size + 1 + 1 < w'.heap.size := by have := hb1.size; simp at this; omega)
      have hz1' : w.heap.size + 2 < w'.heap.size := by omega
      have p0 : w'.cell? ⟨w.heap.size + 1, 0, none⟩ = some (.int .i64 T) := by simp [hc1, go_sem]
      have p1 : w'.cell? ⟨w.heap.size + 1, 1, none⟩ = some (.int .i64 xV) := by simp [hc1, go_sem]
      have p2 : w'.cell? ⟨w.heap.size + 1, 2, none⟩ = some (.int .i64 K) := by simp [hc1, go_sem]
      have p3 : w'.cell? ⟨w.heap.size + 1, 3, none⟩ = some (.int .i64 L) := by simp [hc1, go_sem]
      have x0 : w'.cell? ⟨w.heap.size, 0, none⟩ = some (.int .i64 xV) := by simp [hc1, go_sem]
      have x1 : w'.cell? ⟨w.heap.size, 1, none⟩ = some (.slice A bs.length c) := by simp [hc1, go_sem]
      have r0 : w'.cell? ⟨w.heap.size + 1 + 1, 0, none⟩ = some (.int .i64 0) := by simp [hc1, go_sem]
      have r1 : w'.frozen? ⟨w.heap.size + 1 + 1, 0, none⟩ = false := by simp [hf1, go_sem]
      go_loopw [6, 19] (fun _ i wr => Below w'.heap.size w' wr ∧ ∃ k : Nat, k ≤ bs.length ∧ i = .int .i64 k ∧ ∀ b ∈ bs.take k, ((cnt b 64 : Nat) : Int) = K) (fun _ i _ => bs.length - (intOf i).toNat)
      case atStart => exact ⟨Below.refl _ _, 0, by omega, rfl, by simp⟩
      case round =>
        obtain ⟨hb2, k, hk, rfl, hall⟩ := hrel
        have HALL := hid hall
        clear hall
        have hz2 := hb2.size
        have p2' := (hb2.cell (p := ⟨w.heap.size + 1, 2, none⟩) (show w.heap.size + 1 < _ by omega)).trans p2
        have r0' := (hb2.cell (p := ⟨w.heap.size + 1 + 1, 0, none⟩) (show w.heap.size + 1 + 1 < _ by omega)).trans r0
        have r1' := (hb2.frozen (p := ⟨w.heap.size + 1 + 1, 0, none⟩) (show w.heap.size + 1 + 1 < _ by omega)).trans r1
        have hbw : Below w.heap.size w wr := below_then (below_then (below_alloc (below_alloc (below_alloc (Below.refl _ _) _) _) _) (by simp; omega) hb1) (by omega) hb2
        by_cases hlt : k < bs.length
        · obtain ⟨ad, b, e, hc, hb64, HT⟩ := (hB.below hbw).at_ hlt
          cases e
          have hbx := HB14.out b HT.2.2
          cases hx : (((cnt b 64 : Nat) : Int) != K)
          · have HX := hid hx
            clear hx
            go_wp2
            go_quiet ((go_at_call 34; exact Calls.quiet_of_same (ones_any b hbx _)))
            have hx := HX.out
            go_wp2
            go_roundw
            case rel =>
              refine ⟨pw_below_drewN hb2 _, k + 1, by omega, by go_num, fun b' hb' => ?_⟩
              rw [HT.1, List.mem_append] at hb'
              rcases hb' with hb' | hb'
              · exact HALL.out b' hb'
              · rw [List.mem_singleton.1 hb']; simpa using HX.out
            case measure => simp [intOf]; omega
          · have HX := hid hx
            clear hx
            go_wp2
            go_quiet ((go_at_call 34; exact Calls.quiet_of_same (ones_any b hbx _)))
            have hx := HX.out
            go_wp2
            refine m_ret (v := .int .i64 90) (by simp [results, Tryd.results12, go_sem, r0', r1']) rfl ⟨?_, ?_⟩
            · rw [show chkL xV bs T xV K L = 90 from by
                unfold chkL
                rw [HR.out, if_pos rfl, if_neg]
                rintro ⟨_, h, _⟩
                have := h b HT.2.2
                have h2 := HX.out
                rw [this] at h2
                simp at h2]
            · exact (pw_below_drewN hbw _).setCell (by simp; omega) _
        · have : k = bs.length := by omega
          subst this
          have hz3 : w.heap.size + 2 < wr.heap.size := by omega
          have p0' := (hb2.cell (p := ⟨w.heap.size + 1, 0, none⟩) (show w.heap.size + 1 < _ by omega)).trans p0
          have p1' := (hb2.cell (p := ⟨w.heap.size + 1, 1, none⟩) (show w.heap.size + 1 < _ by omega)).trans p1
          have p3' := (hb2.cell (p := ⟨w.heap.size + 1, 3, none⟩) (show w.heap.size + 1 < _ by omega)).trans p3
          have x0' := (hb2.cell (p := ⟨w.heap.size, 0, none⟩) (show w.heap.size < _ by omega)).trans x0
          have x1' := (hb2.cell (p := ⟨w.heap.size, 1, none⟩) (show w.heap.size < _ by omega)).trans x1
          obtain ⟨vN, rfl⟩ := Int.eq_ofNat_of_zero_le (show 0 ≤ xV by omega)
          obtain ⟨tN, rfl⟩ := Int.eq_ofNat_of_zero_le (show 0 ≤ T by omega)
          clear p0 p1 p2 p3 x0 x1 r0 r1 hc1 hf1
          have hBr := hB.below hbw
          obtain ⟨w0, hw0⟩ : ∃ w0 : World, w0 = wr := ⟨_, rfl⟩
          go_wp2_with (go_at_call 35; refine (sets_any vN tN _).mono ?_; rintro e w2 ⟨rfl, rfl⟩)
          refine (wpIn_wide (n := 8)).1 ?_
          refine wpIn_rangeFunc_ownG rfl (by decide) (gf := 57) (lb := #[.pointer (some ⟨wr.heap.size, 0, none⟩), .pointer (some ⟨wr.heap.size + 1, 0, none⟩)]) rfl trivial (enters_of Tryd.func57 (by kernel_rfl) rfl)
            (sets_stops vN tN 7 wr.heap.size wr.heap.size (wr.heap.size + 1) (by omega) (by omega) (by decide) _ (by simp; omega) (Nat.le_refl _) (by omega) (by simp [go_sem]) (by simp [go_sem])) KC.trans (fun W l o o' _ hl ho _ => KC.put hl ho) (Below.refl _ _) (fun _ => rfl)
            (fun pre W => Below wr.heap.size wr W ∧ ∀ s ∈ pre, ((thr bs s.1 : Nat) : Int) = L)
            (fun c pre W => (c = .ret ∧ ∃ s ∈ pre, ((thr bs s.1 : Nat) : Int) ≠ L) ∧ Below w.heap.size w W ∧ W.cell? ⟨w.heap.size + 1 + 1, 0, none⟩ = some (.int .i64 90))
            ?hI ?hIx ?h0 ?a1 ?assign ?body ?done ?stop
          case assign =>
            intro l x W K hK
            gi_wp2
            exact hK
          case hI => exact OwnFrom.and (ownFrom_below (Nat.le_refl _) (by simp; omega)) (ownFrom_pure _ _)
          case hIx => exact fun c => OwnFrom.and (ownFrom_pure _ _) (OwnFrom.and (ownFrom_below (Nat.le_refl _) (by simp; omega)) (Own.from (fun s A B row hs hg hr => cell_kept hs hg hr) _))
          case h0 => exact ⟨below_alloc (below_alloc (Below.refl _ _) _) _, by simp⟩
          case body =>
            rintro l pre x W ⟨hb3, hall3⟩ hlen
            have hz4 := hb3.size
            have q3 := (hb3.cell (p := ⟨w.heap.size + 1, 3, none⟩) (show w.heap.size + 1 < _ by omega)).trans p3'
            have y0 := (hb3.cell (p := ⟨w.heap.size, 0, none⟩) (show w.heap.size < _ by omega)).trans x0'
            have y1 := (hb3.cell (p := ⟨w.heap.size, 1, none⟩) (show w.heap.size < _ by omega)).trans x1'
            have s0 := (hb3.cell (p := ⟨w.heap.size + 1 + 1, 0, none⟩) (show w.heap.size + 1 + 1 < _ by omega)).trans r0'
            have s1 := (hb3.frozen (p := ⟨w.heap.size + 1 + 1, 0, none⟩) (show w.heap.size + 1 + 1 < _ by omega)).trans r1'
            have hBW := hBr.below hb3
            have hwW : Below w.heap.size w W := below_then hbw (by omega) hb3
            have HALL3 := hid hall3
            clear hall3
            have hnl : bs.length < 2 ^ 62 := by omega
            gi_wp2
            gi_region_with (refine ⟨trivial, ?_⟩; gi_at_call 36; refine (CallsIn.inRound l (callsIn_wide.2 (through_any _ A bs.length c bs x.1 x.2 _ hBW.drew hnl))).mono ?_; rintro e w3 ⟨rfl, hb4⟩; obtain ⟨hc5, hf5⟩ := bcell hb4; have q5 : w3.cell? ⟨w.heap.size + 1, 3, none⟩ = some (.int .i64 L) := (hb4.cell (p := ⟨w.heap.size + 1, 3, none⟩) (show w.heap.size + 1 < W.drew.heap.size from by simp; omega)).trans q3)
            all_goals
              have hbW3 : Below W.heap.size W w3 := below_undrew hb4
              have s0' := (hbW3.cell (p := ⟨w.heap.size + 1 + 1, 0, none⟩) (show w.heap.size + 1 + 1 < _ by omega)).trans s0
              have s1' := (hbW3.frozen (p := ⟨w.heap.size + 1 + 1, 0, none⟩) (show w.heap.size + 1 + 1 < _ by omega)).trans s1
              have hk3 : KeepsFrom ((wr.alloc (Obj.cells #[Value.int IntKind.i64 ↑vN] 3)).alloc (Obj.cells #[Value.int IntKind.i64 ↑tN] 3)).heap.size W w3 := KeepsFrom.of_grownBy (grown_of_below hbW3 none) (by rintro j ⟨⟩)
              have hwW3 : Below w.heap.size w w3 := below_then hwW hwW.size hbW3
              cases hx : (((thr bs x.1 : Nat) : Int) != L)
              · have HX := hid hx
                clear hc5 hf5
                gi_wp2
                exact ⟨hk3, KC.of_below hbW3, below_then hb3 (by omega) hbW3, fun s hs => by
                  rcases List.mem_append.1 hs with hs | hs
                  · exact HALL3.out s hs
                  · rw [List.mem_singleton.1 hs]; simpa using HX.out⟩
              · have HX := hid hx
                clear hc5 hf5
                gi_wp2
                exact ⟨hk3.trans ((KeepsOthers.setCell _ _ _).from _), ⟨rfl, x, by simp, by simpa using HX.out⟩, hwW3.setCell (by simp; omega) _, World.cell?_setCell_same' _ _ _ (by rw [s0']; rfl)⟩
          case done =>
            rintro D xs W hD hS ⟨hb3, hall3⟩ hK
            have hD' : wr.heap.size + 2 ≤ D := by simpa using hD
            have hz4 := hb3.size
            have s0 := (hb3.cell (p := ⟨w.heap.size + 1 + 1, 0, none⟩) (show w.heap.size + 1 + 1 < _ by omega)).trans r0'
            have s1 := (hb3.frozen (p := ⟨w.heap.size + 1 + 1, 0, none⟩) (show w.heap.size + 1 + 1 < _ by omega)).trans r1'
            have HE := hid (show chkL (vN : Int) bs (tN : Int) (vN : Int) K L = 0 from by
              unfold chkL
              rw [HR.out, if_pos rfl, if_pos]
              refine ⟨rfl, fun b hb => HALL.out b (by simpa using hb), fun s hs => ?_⟩
              simp only [Int.toNat_natCast] at hs
              rw [← hS] at hs
              obtain ⟨y, hy, rfl⟩ := List.mem_map.1 hs
              exact hall3 y hy)
            have HK := hid hK
            have HB3 := hid hb3
            clear hS hall3 hK hb3
            go_wp2
            have hK2 := deferred_set (p := ⟨w.heap.size + 1 + 1, 0, none⟩) (.int .i64 0) HK.out (by show w.heap.size + 1 + 1 ≠ D; omega)
            refine m_ret1 (v := .int .i64 0) (D := D) rfl hK2 ?_ ⟨by rw [HE.out], below_put ((below_then hbw (by omega) HB3.out).setCell (by simp; omega) _) (by omega)⟩
            have hc9 := cell_put (o' := .deferred none) hK2 rfl (World.cell?_setCell_same' W ⟨w.heap.size + 1 + 1, 0, none⟩ (.int .i64 0) (by rw [s0]; rfl))
            simp [results, Tryd.results12, go_sem, hc9]
          case stop =>
            rintro D c' pre W hD hS ⟨⟨rfl, x, hx, hne⟩, hb3, hc3⟩ hK
            have hD' : wr.heap.size + 2 ≤ D := by simpa using hD
            have HE := hid (show chkL (vN : Int) bs (tN : Int) (vN : Int) K L = 90 from by
              unfold chkL
              rw [HR.out, if_pos rfl, if_neg]
              rintro ⟨_, _, h⟩
              simp only [Int.toNat_natCast] at h
              exact hne (h x.1 (List.IsPrefix.subset hS (List.mem_map_of_mem hx))))
            have HK := hid hK
            have HB3 := hid hb3
            clear hS hne hK hb3
            refine wpIn_wide.2 ?_
            go_wp2
            refine m_ret1 (v := .int .i64 90) (D := D) rfl HK.out ?_ ⟨by rw [HE.out], below_put HB3.out (by omega)⟩
            have hc9 := cell_put (o' := .deferred none) HK.out rfl hc3
            simp [results, Tryd.results12, go_sem, hc9]
    · have hne : (xV != V) = true := by simp [hV]
      have HE := hid (show chkL xV bs T V K L = 90 from by unfold chkL; rw [HR.out]; simp [hV])
      go_wp2_with (go_at_call 33; refine (right_any T V K L _).mono ?_; rintro e w' ⟨rfl, hb1⟩; rw [HR.out]; obtain ⟨hc1, hf1⟩ := bcell hb1; have hz1 : w.heap.size + 1 + 1 < w'.heap.size := by have := hb1.size; simp at this; omega)
      refine m_ret (v := .int .i64 90) (by simp [results, Tryd.results12, go_sem, hc1, hz1]) rfl ⟨by rw [HE.out], ?_⟩
      exact (below_then (below_alloc (below_alloc (below_alloc (Below.refl _ _) _) _) _) (by simp; omega) hb1).setCell (by simp; omega) _
end Go.Proofs.YtoiahjncpngkeaaDoor
