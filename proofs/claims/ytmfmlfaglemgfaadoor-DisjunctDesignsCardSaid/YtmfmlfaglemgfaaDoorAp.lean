/- disjunct.Apart, walked. -/
import Derived.Test.YtmfmlfaglemgfaaDoorAi
import Derived.Test.YtmfmlfaglemgfaaDoorUr
import Derived.Maps.AppendAt
namespace Go.Proofs.YtmfmlfaglemgfaaDoor
set_option linter.unusedSimpArgs false
set_option linter.unusedVariables false
open Go.RowKit Go.Lib Go.Shelf Go.Proofs.YtmfmlfaglemgfaaDoorW.PrintWords
attribute [local go_sem] Oper.semAt_some
theorem operIn_append {F : Fence} {n : Nat} {P : Program} {w : World} {o : Oper} {a : Act} {Q : Exit → Act → World → Prop} {K : Act → World → Prop} (base : Nat) (s x : Operand) (t e : TypeId) (k : IntKind)
    (hop : o.op = .call { callee := .builtin .append, args := #[s, x], argTypes := #[t, t] }) (ht : P.underlying t = some (.slice e)) (hinfo : (P.info? e).map (fun i => (i.zero, i.size, i.bytes)) = some (some (.int k 0), 1, 8))
    (v : Value) (xs : List Int) (y : Int) (hs : a.eval s = v) (HO : w.ownsRow base e 1 v xs.length (nums k xs)) (g : Nat) (hx : a.eval x = .slice (some ⟨g, 0, none⟩) 1 1) (hc : w.cell? ⟨g, 0, none⟩ = some (.int k y))
    (hl : (xs.length + 1) * 8 ≤ 140737488355328) (hbase : base ≤ w.heap.size)
    (hK : ∀ v' w', w'.ownsRow base e 1 v' (xs ++ [y]).length (nums k (xs ++ [y])) → w.grownBy w' v.ownBlock → (v'.ownBlock = v.ownBlock ∨ v'.ownBlock = some w.heap.size) → K (a.put o.dst v') w') : o.wpIn F n P a w K Q := by
  obtain ⟨i0, hi, hzz⟩ := Option.map_eq_some_iff.1 hinfo
  simp only [Prod.mk.injEq] at hzz
  obtain ⟨hz0, hz1, hz2⟩ := hzz
  obtain ⟨v', w', hrun, r1, r2, _, r4⟩ := run_append_own_at (P := P) (w := w) base t o.type e i0 (.int k 0) 1 8 ht hi hz0 hz1 hz2 rfl (by omega) v xs.length (nums k xs) HO ⟨g, 0, none⟩ 1 1 [.int k y] rfl
    (fun j u hu => by
      cases j with
      | zero => simp at hu; subst hu; exact hc
      | succ j => simp at hu) (by simp [Value.oneCell']) (by simp only [maxLen]; omega) hl hbase
  unfold Oper.wpIn
  refine ⟨?_, ?_⟩
  · simp [Oper.about, hop, resolve, Target.leads, Sem.run_pure]
  · rw [Oper.semAt_plain F _ _ (by rw [hop]; intro c hc'; cases hc')]
    simp [execOp, hop, resolve, invoke, builtin, hs, hx, hrun, Result.andThen]
    exact hK v' w' (by simpa [nums] using r1) r2 r4
theorem own_ownFrom' {β : Type} (C base : Nat) (e : TypeId) (size : Nat) (v : Value) (n : Nat) (f : β → List Value) : OwnFrom C (fun s W => W.ownsRow base e size v n (f s)) := by
  intro s W W' row hs hg hr
  refine own_other hs hg ?_
  cases hv : v.ownBlock with
  | none => exact .inl rfl
  | some k =>
    refine .inr (fun e' => ?_)
    obtain ⟨_, o, ho, hc⟩ := hr k (by rw [← hv, ← e', hv])
    rcases hs.2 with ⟨rfl, _⟩ | ⟨g, cap, cur, rfl, _, hh, _⟩
    · simp [Value.ownBlock] at hv
    · have : g = k := by simpa [Value.ownBlock] using hv
      subst this
      rw [hh] at ho
      cases ho
      cases hc
/-- A cell holds an own row. -/
def Holds (Bl base : Nat) (W : World) (xs : List Nat) : Prop := ∃ v, W.cell? ⟨Bl, 0, none⟩ = some v ∧ W.frozen? ⟨Bl, 0, none⟩ = false ∧ W.ownsRow base 48 1 v xs.length (nums .u64 (il xs))
theorem Holds.ownFrom {β : Type} (C Bl base : Nat) (f : β → List Nat) : OwnFrom C (fun s W => Holds Bl base W (f s)) := by
  rintro s W W' row ⟨v, hc, hf, ho⟩ hg hr
  have hr' : ∀ r, row = some r → ∃ o : Obj, W.heap[r]? = some o ∧ o.isCells = false := fun r e => (hr r e).2
  exact ⟨v, cell_kept hc hg hr', (frozen_kept hc hg hr').trans hf, own_ownFrom' C base _ 1 v _ (fun _ : Unit => nums .u64 (il (f s))) () W W' row ho hg hr⟩
theorem infoUd : (Tryd.prog.info? 48).map (fun i => (i.zero, i.size, i.bytes)) = some (some (.int .u64 0), 1, 8) := by kernel_rfl
def apartS (V d : Nat) (bs : List Nat) : List Nat := (upL d 0 (2 ^ V - 1)).map fun s => posN bs s bs.length
/-- The least distance of two results. -/
def apartN (V d : Nat) (bs : List Nat) : Int := mlist (bs.length + 1) (apartL (apartS V d bs) (apartS V d bs).length)
set_option maxHeartbeats 4000000 in
set_option maxRecDepth 100000 in
theorem apart_any (V d n c : Nat) (A : Option Addr) (E : Int) (bs : List Nat) (hV : V ≤ 16) (hd : d ≤ 16) (hn : n ≤ 15) (hup : (upL d 0 (2 ^ V - 1)).length < 2 ^ 40) (w : World) (hB : BlC w A n bs) :
    Calls Tryd.prog 12 #[.agg #[.int .i64 V, .slice A n c, .int .i64 d, .int .i64 E]] w fun e w' => e = .returned (.int .i64 (apartN V d bs)) ∧ Below w.heap.size w w' := by
  have hu := Tryd.underlying30
  obtain ⟨hn1, _⟩ := id hB
  subst hn1
  have HB := hid hB
  clear hB
  have hV63 : 2 ^ V - 1 < 2 ^ 63 := by have := Nat.pow_lt_pow_right (show 1 < 2 by decide) (show V < 63 by omega); omega
  obtain ⟨fv, hfv⟩ : ∃ fv, 2 ^ V - 1 = fv := ⟨_, rfl⟩
  have ALL := hid (fun W => all_any V (by omega) W)
  have HAN := hid (show apartN V d bs = mlist (bs.length + 1) (apartL ((upL d 0 fv).map fun s => posN bs s bs.length) ((upL d 0 fv).map fun s => posN bs s bs.length).length) from by rw [← hfv]; rfl)
  rw [hfv] at ALL hV63 hup
  have UPT := hid (fun W => upto_any fv d W)
  refine calls_marks 8 Tryd.func12 rfl ?_
  simp only [Tryd.ntmps12, List.size_toArray, List.length_cons, List.length_nil, Nat.reduceAdd, Nat.reduceSub, Array.replicate_succ, Array.replicate_zero, List.push_toArray, List.append_toArray, List.nil_append, List.cons_append]
  go_wp2
  obtain ⟨w3, hw3⟩ : ∃ w3, (w.alloc (.cells #[.int .i64 V, .slice A bs.length c, .int .i64 d, .int .i64 E] 30)).alloc (.cells #[.slice none 0 0] 28) = w3 := ⟨_, rfl⟩
  have hz3 : w3.heap.size = w.heap.size + 2 := by rw [← hw3]; simp
  have hb3 : Below w.heap.size w w3 := by rw [← hw3]; exact below_alloc (below_alloc (Below.refl _ _) _) _
  have hp3 : Blk w3 w.heap.size 30 #[.int .i64 V, .slice A bs.length c, .int .i64 d, .int .i64 E] := by rw [← hw3]; exact (Blk.new _ _ _).alloc _
  have cl3 : w3.cell? ⟨w.heap.size + 1, 0, none⟩ = some (.slice none 0 0) := by rw [← hw3]; simp [go_sem]
  have fl3 : w3.frozen? ⟨w.heap.size + 1, 0, none⟩ = false := by rw [← hw3]; simp [go_sem]
  have p03 : w3.cell? ⟨w.heap.size, 0, none⟩ = some (.int .i64 V) := (hp3.cell 0).trans rfl
  have p23 : w3.cell? ⟨w.heap.size, 2, none⟩ = some (.int .i64 d) := (hp3.cell 2).trans rfl
  rw [hw3]
  clear hw3
  refine (wpIn_wide (n := 8)).1 ?_
  obtain ⟨vv, hvv⟩ : ∃ vv : Nat → Value, vv = fun i => (#[.pointer (some ⟨w.heap.size, 0, none⟩), .int .i64 V, .int .u64 fv, .pointer (some ⟨w.heap.size, 2, none⟩), .int .i64 d, .func (.func 35) #[] #[.pointer (some ⟨w3.heap.size, 0, none⟩), .pointer (some ⟨w3.heap.size + 1, 0, none⟩)]] : Array Value).getD i undef := ⟨_, rfl⟩
  have mk : ∀ (L : Nat → Bool) (a' : Act) (w' : World), a' = ({ tmps := #[.agg #[.int .i64 V, .slice A bs.length c, .int .i64 d, .int .i64 E], .pointer (some ⟨w.heap.size, 0, none⟩), .int .i64 0, .pointer (some ⟨w.heap.size + 1, 0, none⟩), undef, a'.tmps.getD (5 + 0) undef, a'.tmps.getD (5 + 1) undef, a'.tmps.getD (5 + 2) undef, a'.tmps.getD (5 + 3) undef, a'.tmps.getD (5 + 4) undef, a'.tmps.getD (5 + 5) undef, undef, undef, undef, undef, undef, undef, undef, undef, undef, undef, undef, undef, undef], defers := [] } : Act) → (∀ j < 6, L j = true → a'.tmps.getD (5 + j) undef = vv j) → (fun (L : Nat → Bool) (w : World) => Below w3.heap.size w3 w ∧ (L 5 = true → w.cell? ⟨w3.heap.size, 0, none⟩ = some (.int .u64 fv) ∧ w.cell? ⟨w3.heap.size + 1, 0, none⟩ = some (.int .i64 d) ∧ w.heap.size = w3.heap.size + 2) ∧ (L 5 = false → w.heap.size = w3.heap.size)) L w' → ∃ y : Nat → Value, a' = ({ tmps := #[.agg #[.int .i64 V, .slice A bs.length c, .int .i64 d, .int .i64 E], .pointer (some ⟨w.heap.size, 0, none⟩), .int .i64 0, .pointer (some ⟨w.heap.size + 1, 0, none⟩), undef, y 0, y 1, y 2, y 3, y 4, y 5, undef, undef, undef, undef, undef, undef, undef, undef, undef, undef, undef, undef, undef], defers := [] } : Act) ∧ (∀ j < 6, L j = true → y j = vv j) ∧ (fun (L : Nat → Bool) (w : World) => Below w3.heap.size w3 w ∧ (L 5 = true → w.cell? ⟨w3.heap.size, 0, none⟩ = some (.int .u64 fv) ∧ w.cell? ⟨w3.heap.size + 1, 0, none⟩ = some (.int .i64 d) ∧ w.heap.size = w3.heap.size + 2) ∧ (L 5 = false → w.heap.size = w3.heap.size)) L w' := fun L a' w' h1 h2 h3 => ⟨fun m => a'.tmps.getD (5 + m) undef, h1, h2, h3⟩
  refine wpIn_region_inv (by kernel_rfl) (fun L aI wI => ∃ y : Nat → Value, aI = ({ tmps := #[.agg #[.int .i64 V, .slice A bs.length c, .int .i64 d, .int .i64 E], .pointer (some ⟨w.heap.size, 0, none⟩), .int .i64 0, .pointer (some ⟨w.heap.size + 1, 0, none⟩), undef, y 0, y 1, y 2, y 3, y 4, y 5, undef, undef, undef, undef, undef, undef, undef, undef, undef, undef, undef, undef, undef], defers := [] } : Act) ∧ (∀ j < 6, L j = true → y j = vv j) ∧ (fun (L : Nat → Bool) (w : World) => Below w3.heap.size w3 w ∧ (L 5 = true → w.cell? ⟨w3.heap.size, 0, none⟩ = some (.int .u64 fv) ∧ w.cell? ⟨w3.heap.size + 1, 0, none⟩ = some (.int .i64 d) ∧ w.heap.size = w3.heap.size + 2) ∧ (L 5 = false → w.heap.size = w3.heap.size)) L wI) ?acyc ?start ?step ?rdone
  case acyc => exact fun i o ho => acyc_of (by kernel_rfl) i o ho
  case start => exact mk (fun _ => false) _ _ rfl (fun _ _ h => by cases h) (by exact ⟨below_drew (Below.refl _ _), (fun h => nomatch h), fun _ => by simp⟩)
  case step =>
    rintro i o L a wx ho hLi hdep ⟨y, rfl, hy, hWI⟩ K hK
    have hi : i < 6 := (Array.getElem?_eq_some_iff.1 ho).1
    rcases i with _ | _ | _ | _ | _ | _ | i
    · obtain rfl := Option.some.inj ho
      clear hdep ho
      have q0 := (hWI.1.cell (p := ⟨w.heap.size, 0, none⟩) (show w.heap.size < _ by omega)).trans p03
      have q2 := (hWI.1.cell (p := ⟨w.heap.size, 2, none⟩) (show w.heap.size < _ by omega)).trans p23
      go_simp
      refine hK _ _ (mk _ _ _ rfl ?_ ?_)
      rotate_left
      · exact ⟨hWI.1, fun h => hWI.2.1 (by simpa [put1] using h), fun h => hWI.2.2 (by simpa [put1] using h)⟩
      · intro j hj h
        rcases j with _ | _ | _ | _ | _ | _ | j
        all_goals first | (rw [hvv]; rfl) | exact hy _ (by omega) (by simpa [put1] using h) | (exfalso; omega)
    · obtain rfl := Option.some.inj ho
      have d0 : L 0 = true := hdep ⟨0, .data⟩ (by simp) rfl
      have e0 : y 0 = .pointer (some ⟨w.heap.size, 0, none⟩) := (hy 0 (by omega) d0).trans (by rw [hvv]; rfl)
      clear hdep ho
      rw [e0]
      have q0 := (hWI.1.cell (p := ⟨w.heap.size, 0, none⟩) (show w.heap.size < _ by omega)).trans p03
      have q2 := (hWI.1.cell (p := ⟨w.heap.size, 2, none⟩) (show w.heap.size < _ by omega)).trans p23
      go_simp
      refine hK _ _ (mk _ _ _ rfl ?_ ?_)
      rotate_left
      · exact ⟨hWI.1, fun h => hWI.2.1 (by simpa [put1] using h), fun h => hWI.2.2 (by simpa [put1] using h)⟩
      · intro j hj h
        rcases j with _ | _ | _ | _ | _ | _ | j
        all_goals first | (rw [hvv]; rfl) | exact hy _ (by omega) (by simpa [put1] using h) | (exfalso; omega)
    · obtain rfl := Option.some.inj ho
      have d1 : L 1 = true := hdep ⟨1, .data⟩ (by simp) rfl
      have e1 : y 1 = .int .i64 V := (hy 1 (by omega) d1).trans (by rw [hvv]; rfl)
      clear hdep ho
      rw [e1]
      go_simp
      gi_wp2_with (refine ⟨trivial, ?_⟩; gi_at_call 24; refine (callsIn_wide.2 (ALL.out _)).mono ?_; rintro e w' ⟨rfl, rfl⟩)
      refine mk _ _ _ rfl ?_ ?_
      rotate_left
      · exact ⟨hWI.1, fun h => hWI.2.1 (by simpa [put1] using h), fun h => hWI.2.2 (by simpa [put1] using h)⟩
      · intro j hj h
        rcases j with _ | _ | _ | _ | _ | _ | j
        all_goals first | (rw [hvv]; rfl) | exact hy _ (by omega) (by simpa [put1] using h) | (exfalso; omega)
    · obtain rfl := Option.some.inj ho
      clear hdep ho
      have q0 := (hWI.1.cell (p := ⟨w.heap.size, 0, none⟩) (show w.heap.size < _ by omega)).trans p03
      have q2 := (hWI.1.cell (p := ⟨w.heap.size, 2, none⟩) (show w.heap.size < _ by omega)).trans p23
      go_simp
      refine hK _ _ (mk _ _ _ rfl ?_ ?_)
      rotate_left
      · exact ⟨hWI.1, fun h => hWI.2.1 (by simpa [put1] using h), fun h => hWI.2.2 (by simpa [put1] using h)⟩
      · intro j hj h
        rcases j with _ | _ | _ | _ | _ | _ | j
        all_goals first | (rw [hvv]; rfl) | exact hy _ (by omega) (by simpa [put1] using h) | (exfalso; omega)
    · obtain rfl := Option.some.inj ho
      have d3 : L 3 = true := hdep ⟨3, .data⟩ (by simp) rfl
      have e3 : y 3 = .pointer (some ⟨w.heap.size, 2, none⟩) := (hy 3 (by omega) d3).trans (by rw [hvv]; rfl)
      clear hdep ho
      rw [e3]
      have q0 := (hWI.1.cell (p := ⟨w.heap.size, 0, none⟩) (show w.heap.size < _ by omega)).trans p03
      have q2 := (hWI.1.cell (p := ⟨w.heap.size, 2, none⟩) (show w.heap.size < _ by omega)).trans p23
      go_simp
      refine hK _ _ (mk _ _ _ rfl ?_ ?_)
      rotate_left
      · exact ⟨hWI.1, fun h => hWI.2.1 (by simpa [put1] using h), fun h => hWI.2.2 (by simpa [put1] using h)⟩
      · intro j hj h
        rcases j with _ | _ | _ | _ | _ | _ | j
        all_goals first | (rw [hvv]; rfl) | exact hy _ (by omega) (by simpa [put1] using h) | (exfalso; omega)
    · obtain rfl := Option.some.inj ho
      have d2 : L 2 = true := hdep ⟨2, .data⟩ (by simp) rfl
      have d4 : L 4 = true := hdep ⟨4, .data⟩ (by simp) rfl
      have d2 : L 2 = true := hdep ⟨2, .chain⟩ (by simp) rfl
      have e2 : y 2 = .int .u64 fv := (hy 2 (by omega) d2).trans (by rw [hvv]; rfl)
      have e4 : y 4 = .int .i64 d := (hy 4 (by omega) d4).trans (by rw [hvv]; rfl)
      clear hdep ho
      rw [e2, e4]
      have hsx := hWI.2.2 hLi
      go_simp
      gi_wp2_with (refine ⟨trivial, ?_⟩; gi_at_call 23; refine (callsIn_wide.2 (UPT.out _)).mono ?_; rintro e w4 ⟨rfl, hc1, hc2, hb4, hz4⟩)
      refine mk _ _ _ rfl ?_ ?_
      rotate_left
      · exact ⟨below_then hWI.1 hWI.1.size hb4, fun _ => ⟨by rw [← hsx]; exact hc1, by rw [← hsx]; exact hc2, hz4.trans (by rw [hsx])⟩, fun h => by simp [put1] at h⟩
      · intro j hj h
        rcases j with _ | _ | _ | _ | _ | _ | j
        all_goals first | (rw [hvv]; rfl) | (rw [hvv, hz3]; rfl) | exact hy _ (by omega) (by simpa [put1] using h) | (exfalso; omega)
    · exfalso; omega
  case rdone =>
    rintro L a w4 hall ⟨y, rfl, hy, hWI⟩
    obtain ⟨hb4, hc4, _⟩ := hWI
    obtain ⟨hc41, hc42, hz4⟩ := hc4 (hall 5 (by decide))
    have e5 : y 5 = .func (.func 35) #[] #[.pointer (some ⟨w3.heap.size, 0, none⟩), .pointer (some ⟨w3.heap.size + 1, 0, none⟩)] := (hy 5 (by omega) (hall 5 (by decide))).trans (by rw [hvv]; rfl)
    rw [e5]
    generalize y 0 = y0
    generalize y 1 = y1
    generalize y 2 = y2
    generalize y 3 = y3
    generalize y 4 = y4
    clear mk hvv hy hc4 hall e5
    have cl4 := (hb4.cell (p := ⟨w.heap.size + 1, 0, none⟩) (show w.heap.size + 1 < _ by omega)).trans cl3
    have fl4 := (hb4.frozen (p := ⟨w.heap.size + 1, 0, none⟩) (show w.heap.size + 1 < _ by omega)).trans fl3
    have hp4 := hp3.below hb4 (by omega)
    have hz42 : w4.heap.size = w.heap.size + 4 := by omega
    have hb04 : Below w.heap.size w w4 := below_then hb3 (by omega) hb4
    clear cl3 fl3 hp3 p03 p23 hb3 hb4 ALL UPT hu
    go_wp2
    refine wp_range2 (gf := 35) (first := #[]) (lb := #[.pointer (some ⟨w3.heap.size, 0, none⟩), .pointer (some ⟨w3.heap.size + 1, 0, none⟩)]) rfl (enters_of Tryd.func35 (by kernel_rfl) rfl)
      (upto_iterR d fv (w.heap.size + 1) w3.heap.size w3.heap.size (w3.heap.size + 1) hd hV63 w4 (by omega) hc41 hc42 (.slice none 0 0) cl4 rfl).two KR.trans ?hKb (fun _ => rfl)
      (fun pre W' => Holds (w.heap.size + 1) (w.heap.size + 2) W' (pre.map fun s => posN bs s bs.length) ∧ Below w.heap.size w W' ∧ Low (w.heap.size + 1) w4 W')
      (fun _ _ _ => False) (fun _ _ _ _ _ h _ => h.elim) ?hI ?hIx ?h0 ?a1 ?assign ?body ?done ?stop
    case assign => intro l x W K hK; gi_wp2; exact hK
    case hKb => exact fun W o o' hl ho => KR.put (by omega) hl ho
    case hIx => exact fun _ => ownFrom_pure _ _
    case hI => exact OwnFrom.and (Holds.ownFrom _ _ _ _) (OwnFrom.and (ownFrom_below (Nat.le_refl _) (by omega)) (Low.ownFrom (by omega)))
    case h0 => exact ⟨⟨_, cl4, fl4, own_nil _ _ _ _⟩, hb04, Nat.le_of_lt (by omega), fun _ _ => rfl⟩
    case stop => exact fun D c pre W _ _ h _ => h.elim
    case body =>
      intro lp pre s W' hpre ⟨hh, hbw, hlo⟩
      have hs63 : s < 2 ^ 63 := upL_lt (by decide) d 0 fv (by decide) hV63 s (hpre.subset (by simp))
      obtain ⟨v0, hcl, hfl, ho⟩ := hh
      have hpW' : Blk W' w.heap.size 30 #[.int .i64 V, .slice A bs.length c, .int .i64 d, .int .i64 E] := (hlo.2 w.heap.size (by omega)).trans hp4
      have r0 : W'.cell? ⟨w.heap.size, 0, none⟩ = some (.int .i64 V) := (hpW'.cell 0).trans rfl
      have r1 : W'.cell? ⟨w.heap.size, 1, none⟩ = some (.slice A bs.length c) := (hpW'.cell 1).trans rfl
      have r2 : W'.cell? ⟨w.heap.size, 2, none⟩ = some (.int .i64 d) := (hpW'.cell 2).trans rfl
      have r3 : W'.cell? ⟨w.heap.size, 3, none⟩ = some (.int .i64 E) := (hpW'.cell 3).trans rfl
      have hszW : w.heap.size + 1 < W'.heap.size := World.block_lt_of_cell? W' _ hcl
      have hsl : (pre.map fun s => posN bs s bs.length).length < 2 ^ 40 := by rw [List.length_map]; have := hpre.length_le; simp at this; omega
      have hsn : (pre ++ [s]).map (fun s => posN bs s bs.length) = (pre.map fun s => posN bs s bs.length) ++ [posN bs s bs.length] := by simp
      obtain ⟨P, hP⟩ : ∃ P, (pre.map fun s => posN bs s bs.length) = P := ⟨_, rfl⟩
      obtain ⟨ps, hps⟩ : ∃ ps, posN bs s bs.length = ps := ⟨_, rfl⟩
      have POS := hid (fun W2 (hw : Below W'.heap.size W' W2) => positive_any (V : Int) (d : Int) E A bs.length c bs s (by omega) W2 (HB.out.below (below_then hbw hbw.size hw)) (by omega))
      rw [hps] at POS
      rw [hP, hps] at hsn
      rw [hP] at ho hsl
      have hrow : v0.ownBlock ≠ some (w.heap.size + 1) := fun e => by have := own_base ho _ e; omega
      have HSN := hid hsn
      have HPRE := hid hpre
      have hu := Tryd.underlying30
      have hus := Tryd.underlying28
      clear hpre hps hP hsn hpW'
      gi_wp2
      obtain ⟨vv, hvv⟩ : ∃ vv : Nat → Value, vv = fun i => (#[v0, .agg #[.int .i64 V, .slice A bs.length c, .int .i64 d, .int .i64 E], .int .u64 s, .int .u64 ps] : Array Value).getD i undef := ⟨_, rfl⟩
      have mk : ∀ (L : Nat → Bool) (a' : Act) (w' : World), a' = ({ tmps := #[.agg #[.int .i64 V, .slice A bs.length c, .int .i64 d, .int .i64 E], .pointer (some ⟨w.heap.size, 0, none⟩), .int .i64 0, .pointer (some ⟨w.heap.size + 1, 0, none⟩), .int .u64 s, y0, y1, y2, y3, y4, .func (.func 35) #[] #[.pointer (some ⟨w.heap.size + 2, 0, none⟩), .pointer (some ⟨w.heap.size + 2 + 1, 0, none⟩)], .int .u64 s, a'.tmps.getD (12 + 0) undef, a'.tmps.getD (12 + 1) undef, a'.tmps.getD (12 + 2) undef, a'.tmps.getD (12 + 3) undef, a'.tmps.getD (12 + 4) undef, a'.tmps.getD (12 + 5) undef, undef, undef, undef, undef, undef, undef], defers := [] } : Act) → (∀ j < 4, L j = true → a'.tmps.getD (12 + j) undef = vv j) → (fun (L : Nat → Bool) (wz : World) (y : Nat → Value) => (L 3 = true → L 1 = true ∧ L 2 = true) ∧ (L 4 = true → L 3 = true) ∧ (L 5 = true → L 0 = true ∧ L 4 = true) ∧ (L 6 = true → L 5 = true) ∧ (L 5 = false → Below W'.heap.size W' wz) ∧ (L 4 = true → L 5 = false → ∃ g, y 4 = .slice (some ⟨g, 0, none⟩) 1 1 ∧ wz.cell? ⟨g, 0, none⟩ = some (.int .u64 ps)) ∧ (L 5 = true → ∃ w2 w3 v', y 5 = v' ∧ Below W'.heap.size W' w2 ∧ w2.grownBy w3 v0.ownBlock ∧ w3.ownsRow (w.heap.size + 2) 48 1 v' (il P ++ [(ps : Int)]).length (nums .u64 (il P ++ [(ps : Int)])) ∧ (v'.ownBlock = v0.ownBlock ∨ v'.ownBlock = some w2.heap.size) ∧ (L 6 = false → wz = w3) ∧ (L 6 = true → wz = w3.setCell ⟨w.heap.size + 1, 0, none⟩ v'))) L w' (fun m => a'.tmps.getD (12 + m) undef) → ∃ y : Nat → Value, a' = ({ tmps := #[.agg #[.int .i64 V, .slice A bs.length c, .int .i64 d, .int .i64 E], .pointer (some ⟨w.heap.size, 0, none⟩), .int .i64 0, .pointer (some ⟨w.heap.size + 1, 0, none⟩), .int .u64 s, y0, y1, y2, y3, y4, .func (.func 35) #[] #[.pointer (some ⟨w.heap.size + 2, 0, none⟩), .pointer (some ⟨w.heap.size + 2 + 1, 0, none⟩)], .int .u64 s, y 0, y 1, y 2, y 3, y 4, y 5, undef, undef, undef, undef, undef, undef], defers := [] } : Act) ∧ (∀ j < 4, L j = true → y j = vv j) ∧ (fun (L : Nat → Bool) (wz : World) (y : Nat → Value) => (L 3 = true → L 1 = true ∧ L 2 = true) ∧ (L 4 = true → L 3 = true) ∧ (L 5 = true → L 0 = true ∧ L 4 = true) ∧ (L 6 = true → L 5 = true) ∧ (L 5 = false → Below W'.heap.size W' wz) ∧ (L 4 = true → L 5 = false → ∃ g, y 4 = .slice (some ⟨g, 0, none⟩) 1 1 ∧ wz.cell? ⟨g, 0, none⟩ = some (.int .u64 ps)) ∧ (L 5 = true → ∃ w2 w3 v', y 5 = v' ∧ Below W'.heap.size W' w2 ∧ w2.grownBy w3 v0.ownBlock ∧ w3.ownsRow (w.heap.size + 2) 48 1 v' (il P ++ [(ps : Int)]).length (nums .u64 (il P ++ [(ps : Int)])) ∧ (v'.ownBlock = v0.ownBlock ∨ v'.ownBlock = some w2.heap.size) ∧ (L 6 = false → wz = w3) ∧ (L 6 = true → wz = w3.setCell ⟨w.heap.size + 1, 0, none⟩ v'))) L w' y := fun L a' w' h1 h2 h3 => ⟨fun m => a'.tmps.getD (12 + m) undef, h1, h2, h3⟩
      refine wpIn_region_inv (by kernel_rfl) (fun L aI wI => ∃ y : Nat → Value, aI = ({ tmps := #[.agg #[.int .i64 V, .slice A bs.length c, .int .i64 d, .int .i64 E], .pointer (some ⟨w.heap.size, 0, none⟩), .int .i64 0, .pointer (some ⟨w.heap.size + 1, 0, none⟩), .int .u64 s, y0, y1, y2, y3, y4, .func (.func 35) #[] #[.pointer (some ⟨w.heap.size + 2, 0, none⟩), .pointer (some ⟨w.heap.size + 2 + 1, 0, none⟩)], .int .u64 s, y 0, y 1, y 2, y 3, y 4, y 5, undef, undef, undef, undef, undef, undef], defers := [] } : Act) ∧ (∀ j < 4, L j = true → y j = vv j) ∧ (fun (L : Nat → Bool) (wz : World) (y : Nat → Value) => (L 3 = true → L 1 = true ∧ L 2 = true) ∧ (L 4 = true → L 3 = true) ∧ (L 5 = true → L 0 = true ∧ L 4 = true) ∧ (L 6 = true → L 5 = true) ∧ (L 5 = false → Below W'.heap.size W' wz) ∧ (L 4 = true → L 5 = false → ∃ g, y 4 = .slice (some ⟨g, 0, none⟩) 1 1 ∧ wz.cell? ⟨g, 0, none⟩ = some (.int .u64 ps)) ∧ (L 5 = true → ∃ w2 w3 v', y 5 = v' ∧ Below W'.heap.size W' w2 ∧ w2.grownBy w3 v0.ownBlock ∧ w3.ownsRow (w.heap.size + 2) 48 1 v' (il P ++ [(ps : Int)]).length (nums .u64 (il P ++ [(ps : Int)])) ∧ (v'.ownBlock = v0.ownBlock ∨ v'.ownBlock = some w2.heap.size) ∧ (L 6 = false → wz = w3) ∧ (L 6 = true → wz = w3.setCell ⟨w.heap.size + 1, 0, none⟩ v'))) L wI y) ?acyc ?start ?step ?rdone
      case acyc => exact fun i o ho => acyc_of (by kernel_rfl) i o ho
      case start => exact mk (fun _ => false) _ _ rfl (fun _ _ h => by cases h) (by exact ⟨(fun h => nomatch h), (fun h => nomatch h), (fun h => nomatch h), (fun h => nomatch h), (fun _ => below_drew (Below.refl _ _)), (fun h => nomatch h), (fun h => nomatch h)⟩)
      case step =>
        rintro i o L a wx ho hLi hdep ⟨y, rfl, hy, hWI⟩ K hK
        have hi : i < 7 := (Array.getElem?_eq_some_iff.1 ho).1
        rcases i with _ | _ | _ | _ | _ | _ | _ | i
        · obtain rfl := Option.some.inj ho
          clear hdep ho
          obtain ⟨C3, C4, C5, C6, hbl, hg4, h5⟩ := hWI
          have n5 : L 5 = false := Bool.eq_false_iff.2 (fun h => by have := (C5 h).1; rw [hLi] at this; cases this)
          have hbx0 := hbl n5
          have q0 := (hbx0.cell (p := ⟨w.heap.size, 0, none⟩) (show w.heap.size < _ by omega)).trans r0
          have q1 := (hbx0.cell (p := ⟨w.heap.size, 1, none⟩) (show w.heap.size < _ by omega)).trans r1
          have q2 := (hbx0.cell (p := ⟨w.heap.size, 2, none⟩) (show w.heap.size < _ by omega)).trans r2
          have q3 := (hbx0.cell (p := ⟨w.heap.size, 3, none⟩) (show w.heap.size < _ by omega)).trans r3
          have ql := (hbx0.cell (p := ⟨w.heap.size + 1, 0, none⟩) (show w.heap.size + 1 < _ by omega)).trans hcl
          go_simp
          refine hK _ _ (mk _ _ _ rfl ?_ ?_)
          rotate_left
          · exact ⟨(fun h => ⟨by have := (C3 (by simpa [put1] using h)).1; simp [put1, this], by have := (C3 (by simpa [put1] using h)).2; simp [put1, this]⟩), (fun h => by have := C4 (by simpa [put1] using h); simp [put1, this]), (fun h => ⟨by have := (C5 (by simpa [put1] using h)).1; simp [put1, this], by have := (C5 (by simpa [put1] using h)).2; simp [put1, this]⟩), (fun h => by have := C6 (by simpa [put1] using h); simp [put1, this]), (fun _ => hbx0), (fun h4 _ => hg4 (by simpa [put1] using h4) n5), fun h => by simp [put1, n5] at h⟩
          · intro j hj h
            rcases j with _ | _ | _ | _ | j
            all_goals first | (rw [hvv]; rfl) | exact hy _ (by omega) (by simpa [put1] using h) | (exfalso; omega)
        · obtain rfl := Option.some.inj ho
          clear hdep ho
          obtain ⟨C3, C4, C5, C6, hbl, hg4, h5⟩ := hWI
          have n5 : L 5 = false := Bool.eq_false_iff.2 (fun h => by have := (C3 (C4 (C5 h).2)).1; rw [hLi] at this; cases this)
          have hbx0 := hbl n5
          have q0 := (hbx0.cell (p := ⟨w.heap.size, 0, none⟩) (show w.heap.size < _ by omega)).trans r0
          have q1 := (hbx0.cell (p := ⟨w.heap.size, 1, none⟩) (show w.heap.size < _ by omega)).trans r1
          have q2 := (hbx0.cell (p := ⟨w.heap.size, 2, none⟩) (show w.heap.size < _ by omega)).trans r2
          have q3 := (hbx0.cell (p := ⟨w.heap.size, 3, none⟩) (show w.heap.size < _ by omega)).trans r3
          have ql := (hbx0.cell (p := ⟨w.heap.size + 1, 0, none⟩) (show w.heap.size + 1 < _ by omega)).trans hcl
          go_simp
          refine hK _ _ (mk _ _ _ rfl ?_ ?_)
          rotate_left
          · exact ⟨(fun h => ⟨by have := (C3 (by simpa [put1] using h)).1; simp [put1, this], by have := (C3 (by simpa [put1] using h)).2; simp [put1, this]⟩), (fun h => by have := C4 (by simpa [put1] using h); simp [put1, this]), (fun h => ⟨by have := (C5 (by simpa [put1] using h)).1; simp [put1, this], by have := (C5 (by simpa [put1] using h)).2; simp [put1, this]⟩), (fun h => by have := C6 (by simpa [put1] using h); simp [put1, this]), (fun _ => hbx0), (fun h4 _ => hg4 (by simpa [put1] using h4) n5), fun h => by simp [put1, n5] at h⟩
          · intro j hj h
            rcases j with _ | _ | _ | _ | j
            all_goals first | (rw [hvv]; rfl) | exact hy _ (by omega) (by simpa [put1] using h) | (exfalso; omega)
        · obtain rfl := Option.some.inj ho
          clear hdep ho
          obtain ⟨C3, C4, C5, C6, hbl, hg4, h5⟩ := hWI
          have n5 : L 5 = false := Bool.eq_false_iff.2 (fun h => by have := (C3 (C4 (C5 h).2)).2; rw [hLi] at this; cases this)
          have hbx0 := hbl n5
          have q0 := (hbx0.cell (p := ⟨w.heap.size, 0, none⟩) (show w.heap.size < _ by omega)).trans r0
          have q1 := (hbx0.cell (p := ⟨w.heap.size, 1, none⟩) (show w.heap.size < _ by omega)).trans r1
          have q2 := (hbx0.cell (p := ⟨w.heap.size, 2, none⟩) (show w.heap.size < _ by omega)).trans r2
          have q3 := (hbx0.cell (p := ⟨w.heap.size, 3, none⟩) (show w.heap.size < _ by omega)).trans r3
          have ql := (hbx0.cell (p := ⟨w.heap.size + 1, 0, none⟩) (show w.heap.size + 1 < _ by omega)).trans hcl
          go_simp
          refine hK _ _ (mk _ _ _ rfl ?_ ?_)
          rotate_left
          · exact ⟨(fun h => ⟨by have := (C3 (by simpa [put1] using h)).1; simp [put1, this], by have := (C3 (by simpa [put1] using h)).2; simp [put1, this]⟩), (fun h => by have := C4 (by simpa [put1] using h); simp [put1, this]), (fun h => ⟨by have := (C5 (by simpa [put1] using h)).1; simp [put1, this], by have := (C5 (by simpa [put1] using h)).2; simp [put1, this]⟩), (fun h => by have := C6 (by simpa [put1] using h); simp [put1, this]), (fun _ => hbx0), (fun h4 _ => hg4 (by simpa [put1] using h4) n5), fun h => by simp [put1, n5] at h⟩
          · intro j hj h
            rcases j with _ | _ | _ | _ | j
            all_goals first | (rw [hvv]; rfl) | exact hy _ (by omega) (by simpa [put1] using h) | (exfalso; omega)
        · obtain rfl := Option.some.inj ho
          have d1 : L 1 = true := hdep ⟨1, .data⟩ (by simp) rfl
          have d2 : L 2 = true := hdep ⟨2, .data⟩ (by simp) rfl
          have e1 : y 1 = .agg #[.int .i64 V, .slice A bs.length c, .int .i64 d, .int .i64 E] := (hy 1 (by omega) d1).trans (by rw [hvv]; rfl)
          have e2 : y 2 = .int .u64 s := (hy 2 (by omega) d2).trans (by rw [hvv]; rfl)
          clear hdep ho
          rw [e1, e2]
          obtain ⟨C3, C4, C5, C6, hbl, hg4, h5⟩ := hWI
          have n5 : L 5 = false := Bool.eq_false_iff.2 (fun h => by have := C4 (C5 h).2; rw [hLi] at this; cases this)
          have hbx0 := hbl n5
          have n4 : L 4 = false := Bool.eq_false_iff.2 (fun h => by have := C4 h; rw [hLi] at this; cases this)
          have q0 := (hbx0.cell (p := ⟨w.heap.size, 0, none⟩) (show w.heap.size < _ by omega)).trans r0
          have q1 := (hbx0.cell (p := ⟨w.heap.size, 1, none⟩) (show w.heap.size < _ by omega)).trans r1
          have q2 := (hbx0.cell (p := ⟨w.heap.size, 2, none⟩) (show w.heap.size < _ by omega)).trans r2
          have q3 := (hbx0.cell (p := ⟨w.heap.size, 3, none⟩) (show w.heap.size < _ by omega)).trans r3
          have ql := (hbx0.cell (p := ⟨w.heap.size + 1, 0, none⟩) (show w.heap.size + 1 < _ by omega)).trans hcl
          go_simp
          gi_wp2_with (refine ⟨trivial, ?_⟩; gi_at_call 16; refine (CallsIn.inRound lp (callsIn_wide.2 (POS.out _ (by exact hbx0)))).mono ?_; rintro e w' ⟨rfl, hbx⟩)
          refine mk _ _ _ rfl ?_ ?_
          rotate_left
          · exact ⟨(fun _ => ⟨by simp [put1, d1], by simp [put1, d2]⟩), (fun h => by have := C4 (by simpa [put1] using h); simp [put1, this]), (fun h => ⟨by have := (C5 (by simpa [put1] using h)).1; simp [put1, this], by have := (C5 (by simpa [put1] using h)).2; simp [put1, this]⟩), (fun h => by have := C6 (by simpa [put1] using h); simp [put1, this]), (fun _ => below_then hbx0 hbx0.size hbx), (fun h => by simp [put1, n4] at h), fun h => by simp [put1, n5] at h⟩
          · intro j hj h
            rcases j with _ | _ | _ | _ | j
            all_goals first | (rw [hvv]; rfl) | exact hy _ (by omega) (by simpa [put1] using h) | (exfalso; omega)
        · obtain rfl := Option.some.inj ho
          have d3 : L 3 = true := hdep ⟨3, .data⟩ (by simp) rfl
          have e3 : y 3 = .int .u64 ps := (hy 3 (by omega) d3).trans (by rw [hvv]; rfl)
          clear hdep ho
          rw [e3]
          obtain ⟨C3, C4, C5, C6, hbl, hg4, h5⟩ := hWI
          have n5 : L 5 = false := Bool.eq_false_iff.2 (fun h => by have := (C5 h).2; rw [hLi] at this; cases this)
          have hbx0 := hbl n5
          have q0 := (hbx0.cell (p := ⟨w.heap.size, 0, none⟩) (show w.heap.size < _ by omega)).trans r0
          have q1 := (hbx0.cell (p := ⟨w.heap.size, 1, none⟩) (show w.heap.size < _ by omega)).trans r1
          have q2 := (hbx0.cell (p := ⟨w.heap.size, 2, none⟩) (show w.heap.size < _ by omega)).trans r2
          have q3 := (hbx0.cell (p := ⟨w.heap.size, 3, none⟩) (show w.heap.size < _ by omega)).trans r3
          have ql := (hbx0.cell (p := ⟨w.heap.size + 1, 0, none⟩) (show w.heap.size + 1 < _ by omega)).trans hcl
          go_simp
          refine hK _ _ (mk _ _ _ rfl ?_ ?_)
          rotate_left
          · exact ⟨(fun h => ⟨by have := (C3 (by simpa [put1] using h)).1; simp [put1, this], by have := (C3 (by simpa [put1] using h)).2; simp [put1, this]⟩), (fun _ => by simp [put1, d3]), (fun h => ⟨by have := (C5 (by simpa [put1] using h)).1; simp [put1, this], by have := (C5 (by simpa [put1] using h)).2; simp [put1, this]⟩), (fun h => by have := C6 (by simpa [put1] using h); simp [put1, this]), (fun _ => below_alloc hbx0 _), (fun _ _ => ⟨wx.heap.size, rfl, by simp [go_sem]⟩), fun h => by simp [put1, n5] at h⟩
          · intro j hj h
            rcases j with _ | _ | _ | _ | j
            all_goals first | (rw [hvv]; rfl) | exact hy _ (by omega) (by simpa [put1] using h) | (exfalso; omega)
        · obtain rfl := Option.some.inj ho
          have d0 : L 0 = true := hdep ⟨0, .data⟩ (by simp) rfl
          have d4 : L 4 = true := hdep ⟨4, .data⟩ (by simp) rfl
          have d3 : L 3 = true := hdep ⟨3, .chain⟩ (by simp) rfl
          have e0 : y 0 = v0 := (hy 0 (by omega) d0).trans (by rw [hvv]; rfl)
          clear hdep ho
          rw [e0]
          obtain ⟨C3, C4, C5, C6, hbl, hg4, h5⟩ := hWI
          have hbx0 := hbl hLi
          have n6 : L 6 = false := Bool.eq_false_iff.2 (fun h => by have := C6 h; rw [hLi] at this; cases this)
          obtain ⟨g, hg, hcg⟩ := hg4 d4 hLi
          rw [hg]
          rw [if_pos (by rfl)]
          refine operIn_append (w.heap.size + 2) (.tmp 12) (.tmp 16) 28 48 .u64 rfl hus infoUd v0 (il P) (ps : Int) rfl (by rw [il_length]; exact pw_own_below ho hbx0) g rfl hcg (by rw [il_length]; omega) (by have := hbx0.size; omega) ?_
          intro v9 w9 hown9 hg9 hat9
          refine hK _ _ (mk _ _ _ rfl ?_ ?_)
          rotate_left
          · exact ⟨(fun h => ⟨by have := (C3 (by simpa [put1] using h)).1; simp [put1, this], by have := (C3 (by simpa [put1] using h)).2; simp [put1, this]⟩), (fun h => by have := C4 (by simpa [put1] using h); simp [put1, this]), (fun _ => ⟨by simp [put1, d0], by simp [put1, d4]⟩), (fun h => by have := C6 (by simpa [put1] using h); simp [put1, this]), (fun h => by simp [put1] at h), (fun _ h => by simp [put1] at h), fun _ => ⟨wx, w9, v9, rfl, hbx0, hg9, hown9, hat9, (fun _ => rfl), fun h => by simp [put1, n6] at h⟩⟩
          · intro j hj h
            rcases j with _ | _ | _ | _ | j
            all_goals first | (rw [hvv]; rfl) | exact hy _ (by omega) (by simpa [put1] using h) | (exfalso; omega)
        · obtain rfl := Option.some.inj ho
          have d5 : L 5 = true := hdep ⟨5, .data⟩ (by simp) rfl
          clear hdep ho
          obtain ⟨C3, C4, C5, C6, hbl, hg4, h5⟩ := hWI
          obtain ⟨w2, w9, v9, hy5, hb2, hg2, ho2, hat2, hw, _⟩ := h5 d5
          obtain rfl := hw hLi
          obtain ⟨A9, c9', hv9⟩ := own_slice ho2
          subst hv9
          rw [hy5]
          have hl2 : w.heap.size + 1 < w2.heap.size := by have := hb2.size; omega
          have c9 : wx.cell? ⟨w.heap.size + 1, 0, none⟩ = some v0 := (World.cell?_of_block (w := w2) (a := ⟨w.heap.size + 1, 0, none⟩) (hg2.block _ hl2 (fun e => hrow e.symm))).trans ((hb2.cell (p := ⟨w.heap.size + 1, 0, none⟩) (show w.heap.size + 1 < _ by omega)).trans hcl)
          have f9 : wx.frozen? ⟨w.heap.size + 1, 0, none⟩ = false := (World.frozen?_of_block (w := w2) (a := ⟨w.heap.size + 1, 0, none⟩) (hg2.block _ hl2 (fun e => hrow e.symm))).trans ((hb2.frozen (p := ⟨w.heap.size + 1, 0, none⟩) (show w.heap.size + 1 < _ by omega)).trans hfl)
          go_simp
          refine hK _ _ (mk _ _ _ rfl ?_ ?_)
          rotate_left
          · exact ⟨(fun h => ⟨by have := (C3 (by simpa [put1] using h)).1; simp [put1, this], by have := (C3 (by simpa [put1] using h)).2; simp [put1, this]⟩), (fun h => by have := C4 (by simpa [put1] using h); simp [put1, this]), (fun h => ⟨by have := (C5 (by simpa [put1] using h)).1; simp [put1, this], by have := (C5 (by simpa [put1] using h)).2; simp [put1, this]⟩), (fun _ => by simp [put1, d5]), (fun h => by simp [put1, d5] at h), (fun _ h => by simp [put1, d5] at h), fun _ => ⟨w2, wx, .slice A9 (il P ++ [(ps : Int)]).length c9', (show (Value.slice A9 ((il P).length + 1) c9' : Value) = _ from by simp), hb2, hg2, ho2, hat2, (fun h => by simp [put1] at h), fun _ => by simp⟩⟩
          · intro j hj h
            rcases j with _ | _ | _ | _ | j
            all_goals first | (rw [hvv]; rfl) | exact hy _ (by omega) (by simpa [put1] using h) | (exfalso; omega)
        · exfalso; omega
      case rdone =>
        rintro L a w5 hall ⟨y, rfl, hy, hWI⟩
        obtain ⟨_, _, _, _, _, _, h5⟩ := hWI
        obtain ⟨w2, w9, v9, _, hb2, hg2, ho2, hat2, _, hw⟩ := h5 (hall 5 (by decide))
        have hw5 := hw (hall 6 (by decide))
        subst hw5
        clear mk hvv hy h5 hall hw
        have hl2 : w.heap.size + 1 < w2.heap.size := by have := hb2.size; omega
        have c9 : w9.cell? ⟨w.heap.size + 1, 0, none⟩ = some v0 := (World.cell?_of_block (w := w2) (a := ⟨w.heap.size + 1, 0, none⟩) (hg2.block _ hl2 (fun e => hrow e.symm))).trans ((hb2.cell (p := ⟨w.heap.size + 1, 0, none⟩) (show w.heap.size + 1 < _ by omega)).trans hcl)
        have f9 : w9.frozen? ⟨w.heap.size + 1, 0, none⟩ = false := (World.frozen?_of_block (w := w2) (a := ⟨w.heap.size + 1, 0, none⟩) (hg2.block _ hl2 (fun e => hrow e.symm))).trans ((hb2.frozen (p := ⟨w.heap.size + 1, 0, none⟩) (show w.heap.size + 1 < _ by omega)).trans hfl)
        have hgb : W'.grownBy w9 v0.ownBlock := World.grownBy.trans (grown_of_below hb2 _) hg2
        have hrow9 : v9.ownBlock ≠ some (w.heap.size + 1) := fun e => by have := own_base ho2 _ e; omega
        have ho9 : (w9.setCell ⟨w.heap.size + 1, 0, none⟩ v9).ownsRow (w.heap.size + 2) 48 1 v9 (il P ++ [(ps : Int)]).length (nums .u64 (il P ++ [(ps : Int)])) :=
          own_other ho2 (grownBy_setCell' w9 (w.heap.size + 1) v9) (.inr hrow9)
        have hilP : il P ++ [(ps : Int)] = il (P ++ [ps]) := by simp [il]
        rw [hilP, il_length] at ho9
        have hz9 := hgb.size
        have hr0 : rowOf (w.heap.size + 1) W' = v0.ownBlock := rowOf_eq hcl
        have hr9 : rowOf (w.heap.size + 1) (w9.setCell ⟨w.heap.size + 1, 0, none⟩ v9) = v9.ownBlock := rowOf_eq (World.cell?_setCell_same _ _ _ c9)
        have hz2 := hb2.size
        have hKR : KR (w.heap.size + 1) (w3.heap.size) W' (w9.setCell ⟨w.heap.size + 1, 0, none⟩ v9) := by
          refine ⟨by simpa [World.setCell] using hz9, ?_, fun k cs t f hk hne hc => ?_⟩
          · rw [hr0, hr9]
            rcases hat2 with e | e
            · exact .inl e
            · exact .inr (fun r hr => by rw [e] at hr; cases hr; exact hz2)
          · rw [hr0] at hne
            exact (Below.heap_setCell w9 ⟨w.heap.size + 1, 0, none⟩ v9 k (by show k ≠ w.heap.size + 1; omega)).trans ((hgb.block k (blk_lt hc) (fun e => hne e.symm)).trans hc)
        have hkf : KeepsFrom w4.heap.size W' (w9.setCell ⟨w.heap.size + 1, 0, none⟩ v9) := by
          refine ⟨by simpa [World.setCell] using hz9, fun k o hk hko hoc => ?_⟩
          refine (Below.heap_setCell w9 ⟨w.heap.size + 1, 0, none⟩ v9 k (by show k ≠ w.heap.size + 1; omega)).trans ((hgb.block k (blk_lt hko) (fun e => ?_)).trans hko)
          obtain ⟨cells, hcc⟩ := own_typed ho k e.symm
          rw [hko] at hcc
          cases hcc
          simp [Obj.isCells] at hoc
        have hbel : Below w.heap.size w (w9.setCell ⟨w.heap.size + 1, 0, none⟩ v9) := (hbw.grown hgb (by omega) (fun k hk => by have := own_base ho k hk; omega)).setCell (show w.heap.size ≤ w.heap.size + 1 by omega) v9
        have hlow : Low (w.heap.size + 1) w4 (w9.setCell ⟨w.heap.size + 1, 0, none⟩ v9) := ⟨by rw [show (w9.setCell ⟨w.heap.size + 1, 0, none⟩ v9).heap.size = w9.heap.size from by simp [World.setCell]]; omega, fun k hk =>
          (Below.heap_setCell w9 ⟨w.heap.size + 1, 0, none⟩ v9 k (by show k ≠ w.heap.size + 1; omega)).trans ((hgb.block k (by omega) (fun e => by have := own_base ho k e.symm; omega)).trans (hlo.2 k hk))⟩
        have hf9 : (w9.setCell ⟨w.heap.size + 1, 0, none⟩ v9).frozen? ⟨w.heap.size + 1, 0, none⟩ = false := by simp [go_sem, f9]
        have c99 := World.cell?_setCell_same w9 ⟨w.heap.size + 1, 0, none⟩ v9 c9
        have FIN := hid (And.intro hkf (And.intro hKR (And.intro (show Holds (w.heap.size + 1) (w.heap.size + 2) (w9.setCell ⟨w.heap.size + 1, 0, none⟩ v9) ((pre ++ [s]).map fun s => posN bs s bs.length) from by rw [HSN.out]; exact ⟨v9, c99, hf9, ho9⟩) (And.intro hbel hlow))))
        clear hkf hKR hbel hlow hf9 c99 ho9 ho2 hat2 hr0 hr9 hgb hg2 hb2 c9 f9
        gi_wp2
        exact FIN.out
    case done =>
      intro D W' hD ⟨⟨v0, hcl, hfl, ho⟩, hbw, hlo⟩ hDd
      have hpW' : Blk W' w.heap.size 30 #[.int .i64 V, .slice A bs.length c, .int .i64 d, .int .i64 E] := (hlo.2 w.heap.size (by omega)).trans hp4
      have r1 : W'.cell? ⟨w.heap.size, 1, none⟩ = some (.slice A bs.length c) := (hpW'.cell 1).trans rfl
      obtain ⟨ls, hls⟩ : ∃ ls, ((upL d 0 fv).map fun s => posN bs s bs.length) = ls := ⟨_, rfl⟩
      rw [hls] at ho
      rw [hls] at HAN
      have hll : ls.length < 2 ^ 40 := by rw [← hls, List.length_map]; exact hup
      have hl15 : ∀ b ∈ ls, b < 32768 := by
        intro b hb
        rw [← hls] at hb
        obtain ⟨s, _, rfl⟩ := List.mem_map.1 hb
        exact Nat.lt_of_lt_of_le (posN_lt bs s bs.length) (Nat.le_trans (Nat.pow_le_pow_right (show 0 < 2 by decide) hn) (by decide))
      obtain ⟨A', c', hv, hnc, _, hBl⟩ := own_BlC ho (fun b hb => by have := hl15 b hb; omega)
      subst hv
      have LE := hid (least_any ((bs.length : Int) + 1) 29 #[.pointer (some ⟨w.heap.size + 1, 0, none⟩)] (apartL ls ls.length) W' (enters_of Tryd.func29 (by kernel_rfl) rfl) (fun W hW =>
        apart_iter ls.length c' A' ls hnc hll (w.heap.size + 1) W'.heap.size W' W rfl hBl hl15 hcl hW))
      clear hls hBl ho hlo hpW' hp4
      go_wp2_with (go_at_call 21; refine LE.out.mono ?_; rintro e w6 ⟨rfl, hb6⟩)
      refine m_ret1 (v := .int .i64 (apartN V d bs)) rfl ((hb6.block D (blk_lt hDd)).trans hDd) (by rw [HAN.out]; simp [results, Tryd.results12, go_sem]) ⟨rfl, below_put (below_then hbw hbw.size hb6) (by omega)⟩
end Go.Proofs.YtmfmlfaglemgfaaDoor
