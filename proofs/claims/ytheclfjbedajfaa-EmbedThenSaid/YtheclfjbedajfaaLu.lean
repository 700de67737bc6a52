/- embed.lists, the iterator, walked. -/
/- embed.lists and its iterator. -/
import Derived.Test.YtheclfjbedajfaaRm
import Derived.Test.YtheclfjbedajfaaQu
import Derived.Test.YtheclfjbedajfaaRx
namespace Go.Proofs.Ytheclfjbedajfaa
set_option linter.unusedSimpArgs false
set_option linter.unusedVariables false
open Go.RowKit Go.Lib Go.Shelf Go.Proofs.YtheclfjbedajfaaW.PrintWords
attribute [local go_sem] Oper.semAt_some

/-- The lists that are yielded below a list. -/
def lsL (n : Nat) : Nat → List Nat → List (List Nat)
  | 0, f => [f]
  | l + 1, f => (List.range n).flatMap fun p => if p ∈ f then [] else lsL n l (f ++ [p])
theorem lsL_mem {n : Nat} : ∀ {l : Nat} {f x : List Nat}, x ∈ lsL n l f → (∀ q ∈ f, q < n) → f.Nodup → x.length = f.length + l ∧ (∀ q ∈ x, q < n) ∧ x.Nodup
  | 0, f, x, h, hf, hd => by
    rw [lsL, List.mem_singleton] at h
    subst h
    exact ⟨rfl, hf, hd⟩
  | l + 1, f, x, h, hf, hd => by
    rw [lsL, List.mem_flatMap] at h
    obtain ⟨p, hp, h⟩ := h
    split at h
    · cases h
    · rename_i hpf
      obtain ⟨h1, h2, h3⟩ := lsL_mem h (by intro q hq; rcases List.mem_append.1 hq with hq | hq; exact hf q hq; rw [List.mem_singleton] at hq; subst hq; exact List.mem_range.1 hp) (List.nodup_append.2 ⟨hd, by simp, fun a ha b hb e => by rw [List.mem_singleton] at hb; subst hb; subst e; exact hpf ha⟩)
      exact ⟨by rw [h1, List.length_append]; simp; omega, h2, h3⟩
abbrev ROw (B : Nat) (x : List Nat) (v : Value) (W : World) : Prop := W.ownsRow B 3 1 v x.length (nums .i64 (il x))
abbrev downV (B1 B2 B3 B4 : Nat) : Value := .func (.func 57) #[] #[.pointer (some ⟨B1, 0, none⟩), .pointer (some ⟨B2, 0, none⟩), .pointer (some ⟨B3, 0, none⟩), .pointer (some ⟨B4, 0, none⟩)]
theorem operIn_app {F : Fence} {n : Nat} {P : Program} {w w' : World} {o : Oper} {a : Act} {Q : Exit → Act → World → Prop} {K : Act → World → Prop} (s x : Operand) (t : TypeId) (v1 v2 v : Value)
    (hop : o.op = .call { callee := .builtin .append, args := #[s, x], argTypes := #[t, t] }) (hs : a.eval s = v1) (hx : a.eval x = v2) (hrun : ∀ ty : TypeId, (Builtin.append_ #[t, t] ty #[v1, v2]).run P w = .ok v w')
    (hK : K (a.put o.dst v) w') : o.wpIn F n P a w K Q := by
  unfold Oper.wpIn
  refine ⟨?_, ?_⟩
  · simp [Oper.about, hop, resolve, Target.leads, Sem.run_pure]
  · rw [Oper.semAt_plain F _ _ (by rw [hop]; intro c hc'; cases hc')]
    simp [execOp, hop, resolve, invoke, builtin, hs, hx, hrun, Result.andThen]
    exact hK
theorem opt_add (A : Option Addr) : Option.map (fun x => x.add 0) A = A := by
  cases A with
  | none => rfl
  | some a => simp [Addr.add]
theorem own_cap {B : Nat} {f : List Nat} {A : Option Addr} {c : Nat} {W : World} (h : ROw B f (.slice A f.length c) W) : f.length ≤ c := by
  obtain ⟨_, _, e', h1, h2, _⟩ := own_IC h
  injection e' with _ _ e2
  omega
theorem contains_own {B : Nat} {f : List Nat} {A : Option Addr} {c : Nat} {W : World} (h : ROw B f (.slice A f.length c) W) (p : Int) (hl : f.length < 2 ^ 40) :
    Calls Try.prog 55 #[.slice A f.length c, .int .i64 p] W fun e w' => e = .returned (.bool (decide (p ∈ il f))) ∧ w' = W := by
  obtain ⟨_, _, e', _, _, hC⟩ := own_IC h
  injection e' with e1 _ e2
  subst e1 e2
  have := contains_any A c (il f) p W (by rw [il_length]; exact hC) (by rw [il_length]; omega)
  rwa [il_length] at this
set_option maxHeartbeats 1000000 in
set_option maxRecDepth 100000 in
theorem down_any (l B n k : Nat) (hn : n ≤ 16) (hk : k ≤ 16) (XS : List (List Nat)) (J : List (List Nat) → World → Prop) (hJ : ∀ s W W', J s W → W.grownBy W' none → J s W')
    (hY : ∀ m pre x v W, pre ++ [x] <+: XS → ROw B x v W → J pre W → YieldAt Fence.wide m Try.prog l #[v] W fun e W' => e = .returned (.bool true) ∧ J (pre ++ [x]) W' ∧ KC B W W')
    (B1 B2 B3 B4 : Nat) (h1 : B ≤ B1) (h2 : B ≤ B2) (h3 : B ≤ B3) (h4 : B ≤ B4) (left : Nat) :
    ∀ (f : List Nat) (v : Value) (pre : List (List Nat)) (W : World), f.length + left = k → ROw B f v W → B ≤ W.heap.size → pre ++ lsL n left f <+: XS → J pre W → W.cell? ⟨B1, 0, none⟩ = some (.int .i64 k) → W.cell? ⟨B2, 0, none⟩ = some (.func (.yield l) #[] #[]) → W.cell? ⟨B3, 0, none⟩ = some (.int .i64 n) →
      W.cell? ⟨B4, 0, none⟩ = some (downV B1 B2 B3 B4) →
      Calls Try.prog 57 #[v, .pointer (some ⟨B1, 0, none⟩), .pointer (some ⟨B2, 0, none⟩), .pointer (some ⟨B3, 0, none⟩), .pointer (some ⟨B4, 0, none⟩)] W fun e W' =>
        e = .returned (.bool true) ∧ J (pre ++ lsL n left f) W' ∧ KC B W W' := by
  induction left with
  | zero =>
    intro f v pre W hf hR hBW hpre hJ0 c1 c2 c3 c4
    obtain ⟨A, c, rfl⟩ := own_slice hR
    have hkf : k = f.length := by omega
    subst hkf
    refine (callsIn_wide (n := 3)).1 ?_
    refine callsIn_of_wp Try.func57 rfl trivial ?_ rfl
    simp only [Try.ntmps57, List.size_toArray, List.length_cons, List.length_nil, Nat.reduceAdd, Nat.reduceSub, Array.replicate_succ, Array.replicate_zero, List.push_toArray, List.append_toArray, List.nil_append, List.cons_append]
    obtain ⟨fn, tmps, assign, body, hy, hR2⟩ := hY 2 pre f _ W hpre hR hJ0
    gi_wp2
    refine hR2.mono ?_
    rintro e W' ⟨rfl, hJ', hk⟩
    gi_wp2
    go_ret
    exact ⟨rfl, hJ', hk⟩
  | succ left ih =>
    intro f v pre W hf hR hBW hpre hJ0 c1 c2 c3 c4
    obtain ⟨A, c, rfl⟩ := own_slice hR
    have hne : ((f.length : Int) == (k : Int)) = false := by rw [beq_eq_false_iff_ne]; omega
    have hfl : f.length < 16 := by omega
    have IH := fun (p : Nat) (v : Value) (pre : List (List Nat)) (W : World) => hid (ih (f ++ [p]) v pre W (by rw [List.length_append]; simp; omega))
    have HJ := hid hJ
    have HPRE := hid hpre
    have HOW := hid hR
    clear ih hJ hY hpre hR
    go_enter Try.func57, Try.ntmps57
    go_wp2
    clear hne
    go_loopw [16] (fun i wr => ∃ j : Nat, j ≤ n ∧ i = .int .i64 j ∧ Hid (J (pre ++ (List.range j).flatMap fun p => if p ∈ f then [] else lsL n left (f ++ [p])) wr) ∧ KC B W wr) (fun i _ => n - (intOf i).toNat)
    case atStart => exact ⟨0, by omega, rfl, (show J _ _ by simpa using hJ0), KC.refl _ _⟩
    case round =>
      clear hJ0
      obtain ⟨j, hj, rfl, HJw, hk1⟩ := hrel
      have c1' := hk1.cell h1 c1
      have c2' := hk1.cell h2 c2
      have c3' := hk1.cell h3 c3
      have c4' := hk1.cell h4 c4
      have hBr : B ≤ wr.heap.size := Nat.le_trans hBW hk1.1
      by_cases hlt : j < n
      · have HCo := hid (fun W' (hW' : KC B W W') => contains_own (own_KC HOW.out hW' (Nat.le_refl _)) (j : Int) (by omega))
        have hrs : List.range (j + 1) = List.range j ++ [j] := List.range_succ
        by_cases hin : j ∈ f
        · have hq : decide ((j : Int) ∈ il f) = true := by simpa using il_mem.2 hin
          have HF : Hid ((List.range (j + 1)).flatMap (fun p => if p ∈ f then [] else lsL n left (f ++ [p])) = (List.range j).flatMap fun p => if p ∈ f then [] else lsL n left (f ++ [p])) := (show _ = _ by rw [hrs, List.flatMap_append]; simp [hin])
          rw [hq] at HCo
          obtain ⟨QQ, hQQ⟩ : ∃ QQ, (pre ++ (List.range j).flatMap fun p => if p ∈ f then [] else lsL n left (f ++ [p])) = QQ := ⟨_, rfl⟩
          have HQQ := hid hQQ
          rw [hQQ] at HJw
          have HJ2 := hid (HJ.out _ _ _ HJw.out (grown_drew _))
          have hk2 : KC B W wr.drew := hk1.trans (KC.of_below (below_drew (Below.refl _ _)))
          clear hin hq hrs hQQ
          go_upto_region 6 with (fail)
          refine (wpIn_wide (n := 8)).1 ?_
          obtain ⟨vv, hvv⟩ : ∃ vv : Nat → Value, vv = fun i => (#[.slice A f.length c, .int .i64 j, .bool true, .bool false, .bool false, undef, undef, undef, undef, undef, undef, undef, undef, undef, undef, undef, undef, .bool false] : Array Value).getD i undef := ⟨_, rfl⟩
          have mk : ∀ (L : Nat → Bool) (a' : Act) (w' : World), a' = ({ tmps := #[.slice A f.length c, .pointer (some ⟨B1, 0, none⟩), .pointer (some ⟨B2, 0, none⟩), .pointer (some ⟨B3, 0, none⟩), .pointer (some ⟨B4, 0, none⟩), undef, u6, .int .i64 j, .slice A f.length c, .int .i64 f.length, .int .i64 k, .bool false, undef, undef, undef, .int .i64 n, .int .i64 j, .bool true, .int .i64 j, a'.tmps.getD (19 + 0) undef, a'.tmps.getD (19 + 1) undef, a'.tmps.getD (19 + 2) undef, a'.tmps.getD (19 + 3) undef, a'.tmps.getD (19 + 4) undef, a'.tmps.getD (19 + 5) undef, a'.tmps.getD (19 + 6) undef, a'.tmps.getD (19 + 7) undef, a'.tmps.getD (19 + 8) undef, a'.tmps.getD (19 + 9) undef, a'.tmps.getD (19 + 10) undef, a'.tmps.getD (19 + 11) undef, a'.tmps.getD (19 + 12) undef, a'.tmps.getD (19 + 13) undef, a'.tmps.getD (19 + 14) undef, a'.tmps.getD (19 + 15) undef, a'.tmps.getD (19 + 16) undef, a'.tmps.getD (19 + 17) undef, u37], defers := [] } : Act) → (∀ j < 18, L j = true → a'.tmps.getD (19 + j) undef = vv j) → (fun (L : Nat → Bool) (wz : World) => KC B W wz ∧ Hid (J QQ wz)) L w' → ∃ y : Nat → Value, a' = ({ tmps := #[.slice A f.length c, .pointer (some ⟨B1, 0, none⟩), .pointer (some ⟨B2, 0, none⟩), .pointer (some ⟨B3, 0, none⟩), .pointer (some ⟨B4, 0, none⟩), undef, u6, .int .i64 j, .slice A f.length c, .int .i64 f.length, .int .i64 k, .bool false, undef, undef, undef, .int .i64 n, .int .i64 j, .bool true, .int .i64 j, y 0, y 1, y 2, y 3, y 4, y 5, y 6, y 7, y 8, y 9, y 10, y 11, y 12, y 13, y 14, y 15, y 16, y 17, u37], defers := [] } : Act) ∧ (∀ j < 18, L j = true → y j = vv j) ∧ (fun (L : Nat → Bool) (wz : World) => KC B W wz ∧ Hid (J QQ wz)) L w' := fun L a' w' h1 h2 h3 => ⟨fun m => a'.tmps.getD (19 + m) undef, h1, h2, h3⟩
          refine wpIn_region_inv (by kernel_rfl) (fun L aI wI => ∃ y : Nat → Value, aI = ({ tmps := #[.slice A f.length c, .pointer (some ⟨B1, 0, none⟩), .pointer (some ⟨B2, 0, none⟩), .pointer (some ⟨B3, 0, none⟩), .pointer (some ⟨B4, 0, none⟩), undef, u6, .int .i64 j, .slice A f.length c, .int .i64 f.length, .int .i64 k, .bool false, undef, undef, undef, .int .i64 n, .int .i64 j, .bool true, .int .i64 j, y 0, y 1, y 2, y 3, y 4, y 5, y 6, y 7, y 8, y 9, y 10, y 11, y 12, y 13, y 14, y 15, y 16, y 17, u37], defers := [] } : Act) ∧ (∀ j < 18, L j = true → y j = vv j) ∧ (fun (L : Nat → Bool) (wz : World) => KC B W wz ∧ Hid (J QQ wz)) L wI) ?acyc ?start ?step ?rdone
          case acyc => exact fun i o ho => acyc_of (by kernel_rfl) i o ho
          case start => exact mk (fun _ => false) _ _ rfl (fun _ _ h => by cases h) (by exact ⟨hk2, HJ2⟩)
          case step =>
            rintro i o L a wx ho hLi hdep ⟨y, rfl, hy, hWI⟩ K hK
            have hi : i < 18 := (Array.getElem?_eq_some_iff.1 ho).1
            rcases i with _ | _ | _ | _ | _ | _ | _ | _ | _ | _ | _ | _ | _ | _ | _ | _ | _ | _ | i
            · obtain rfl := Option.some.inj ho
              clear hdep ho
              go_simp
              refine hK _ _ (mk _ _ _ rfl ?_ ?_)
              rotate_left
              · exact hWI
              · intro j hj h
                rcases j with _ | _ | _ | _ | _ | _ | _ | _ | _ | _ | _ | _ | _ | _ | _ | _ | _ | _ | j
                all_goals first | (rw [hvv]; rfl) | exact hy _ (by omega) (by simpa [put1] using h) | (exfalso; omega)
            · obtain rfl := Option.some.inj ho
              clear hdep ho
              go_simp
              refine hK _ _ (mk _ _ _ rfl ?_ ?_)
              rotate_left
              · exact hWI
              · intro j hj h
                rcases j with _ | _ | _ | _ | _ | _ | _ | _ | _ | _ | _ | _ | _ | _ | _ | _ | _ | _ | j
                all_goals first | (rw [hvv]; rfl) | exact hy _ (by omega) (by simpa [put1] using h) | (exfalso; omega)
            · obtain rfl := Option.some.inj ho
              have d0 : L 0 = true := hdep ⟨0, .data⟩ (by simp) rfl
              have d1 : L 1 = true := hdep ⟨1, .data⟩ (by simp) rfl
              have e0 : y 0 = .slice A f.length c := (hy 0 (by omega) d0).trans (by rw [hvv]; rfl)
              have e1 : y 1 = .int .i64 j := (hy 1 (by omega) d1).trans (by rw [hvv]; rfl)
              clear hdep ho
              rw [e0, e1]
              go_simp
              gi_wp2_with (refine ⟨trivial, ?_⟩; gi_at_call 55; refine (callsIn_wide.2 (HCo.out _ (by exact hWI.1))).mono ?_; rintro e w' ⟨rfl, rfl⟩)
              refine mk _ _ _ rfl ?_ ?_
              rotate_left
              · exact hWI
              · intro j hj h
                rcases j with _ | _ | _ | _ | _ | _ | _ | _ | _ | _ | _ | _ | _ | _ | _ | _ | _ | _ | j
                all_goals first | (rw [hvv]; rfl) | exact hy _ (by omega) (by simpa [put1] using h) | (exfalso; omega)
            · obtain rfl := Option.some.inj ho
              have d2 : L 2 = true := hdep ⟨2, .data⟩ (by simp) rfl
              have e2 : y 2 = .bool true := (hy 2 (by omega) d2).trans (by rw [hvv]; rfl)
              clear hdep ho
              rw [e2]
              go_simp
              refine hK _ _ (mk _ _ _ rfl ?_ ?_)
              rotate_left
              · exact hWI
              · intro j hj h
                rcases j with _ | _ | _ | _ | _ | _ | _ | _ | _ | _ | _ | _ | _ | _ | _ | _ | _ | _ | j
                all_goals first | (rw [hvv]; rfl) | exact hy _ (by omega) (by simpa [put1] using h) | (exfalso; omega)
            · obtain rfl := Option.some.inj ho
              have d3 : L 3 = true := hdep ⟨3, .data⟩ (by simp) rfl
              have e3 : y 3 = .bool false := (hy 3 (by omega) d3).trans (by rw [hvv]; rfl)
              clear hdep ho
              rw [e3]
              go_simp
              refine hK _ _ (mk _ _ _ rfl ?_ ?_)
              rotate_left
              · exact hWI
              · intro j hj h
                rcases j with _ | _ | _ | _ | _ | _ | _ | _ | _ | _ | _ | _ | _ | _ | _ | _ | _ | _ | j
                all_goals first | (rw [hvv]; rfl) | exact hy _ (by omega) (by simpa [put1] using h) | (exfalso; omega)
            · obtain rfl := Option.some.inj ho
              have d4 : L 4 = true := hdep ⟨4, .guard⟩ (by simp) rfl
              have e4 : y 4 = .bool false := (hy 4 (by omega) d4).trans (by rw [hvv]; rfl)
              clear hdep ho
              rw [e4]
              rw [if_neg (by intro h; cases h)]
              refine ⟨fun _ _ => trivial, ?_⟩
              go_simp
              refine hK _ _ (mk _ _ _ rfl ?_ ?_)
              rotate_left
              · exact hWI
              · intro j hj h
                rcases j with _ | _ | _ | _ | _ | _ | _ | _ | _ | _ | _ | _ | _ | _ | _ | _ | _ | _ | j
                all_goals first | (rw [hvv]; rfl) | exact hy _ (by omega) (by simpa [put1] using h) | (exfalso; omega)
            · obtain rfl := Option.some.inj ho
              have d4 : L 4 = true := hdep ⟨4, .guard⟩ (by simp) rfl
              have e4 : y 4 = .bool false := (hy 4 (by omega) d4).trans (by rw [hvv]; rfl)
              clear hdep ho
              rw [e4]
              rw [if_neg (by intro h; cases h)]
              refine ⟨fun _ _ => trivial, ?_⟩
              go_simp
              refine hK _ _ (mk _ _ _ rfl ?_ ?_)
              rotate_left
              · exact hWI
              · intro j hj h
                rcases j with _ | _ | _ | _ | _ | _ | _ | _ | _ | _ | _ | _ | _ | _ | _ | _ | _ | _ | j
                all_goals first | (rw [hvv]; rfl) | exact hy _ (by omega) (by simpa [put1] using h) | (exfalso; omega)
            · obtain rfl := Option.some.inj ho
              have d4 : L 4 = true := hdep ⟨4, .guard⟩ (by simp) rfl
              have e4 : y 4 = .bool false := (hy 4 (by omega) d4).trans (by rw [hvv]; rfl)
              clear hdep ho
              rw [e4]
              rw [if_neg (by intro h; cases h)]
              refine ⟨fun _ _ => trivial, ?_⟩
              go_simp
              refine hK _ _ (mk _ _ _ rfl ?_ ?_)
              rotate_left
              · exact hWI
              · intro j hj h
                rcases j with _ | _ | _ | _ | _ | _ | _ | _ | _ | _ | _ | _ | _ | _ | _ | _ | _ | _ | j
                all_goals first | (rw [hvv]; rfl) | exact hy _ (by omega) (by simpa [put1] using h) | (exfalso; omega)
            · obtain rfl := Option.some.inj ho
              have d7 : L 7 = true := hdep ⟨7, .data⟩ (by simp) rfl
              have d4 : L 4 = true := hdep ⟨4, .guard⟩ (by simp) rfl
              have e4 : y 4 = .bool false := (hy 4 (by omega) d4).trans (by rw [hvv]; rfl)
              have e7 : y 7 = undef := (hy 7 (by omega) d7).trans (by rw [hvv]; rfl)
              clear hdep ho
              rw [e4, e7]
              rw [if_neg (by intro h; cases h)]
              refine ⟨fun _ _ => trivial, ?_⟩
              go_simp
              refine hK _ _ (mk _ _ _ rfl ?_ ?_)
              rotate_left
              · exact hWI
              · intro j hj h
                rcases j with _ | _ | _ | _ | _ | _ | _ | _ | _ | _ | _ | _ | _ | _ | _ | _ | _ | _ | j
                all_goals first | (rw [hvv]; rfl) | exact hy _ (by omega) (by simpa [put1] using h) | (exfalso; omega)
            · obtain rfl := Option.some.inj ho
              have d4 : L 4 = true := hdep ⟨4, .guard⟩ (by simp) rfl
              have e4 : y 4 = .bool false := (hy 4 (by omega) d4).trans (by rw [hvv]; rfl)
              clear hdep ho
              rw [e4]
              rw [if_neg (by intro h; cases h)]
              refine ⟨fun _ _ => trivial, ?_⟩
              go_simp
              refine hK _ _ (mk _ _ _ rfl ?_ ?_)
              rotate_left
              · exact hWI
              · intro j hj h
                rcases j with _ | _ | _ | _ | _ | _ | _ | _ | _ | _ | _ | _ | _ | _ | _ | _ | _ | _ | j
                all_goals first | (rw [hvv]; rfl) | exact hy _ (by omega) (by simpa [put1] using h) | (exfalso; omega)
            · obtain rfl := Option.some.inj ho
              have d9 : L 9 = true := hdep ⟨9, .data⟩ (by simp) rfl
              have d4 : L 4 = true := hdep ⟨4, .guard⟩ (by simp) rfl
              have e4 : y 4 = .bool false := (hy 4 (by omega) d4).trans (by rw [hvv]; rfl)
              have e9 : y 9 = undef := (hy 9 (by omega) d9).trans (by rw [hvv]; rfl)
              clear hdep ho
              rw [e4, e9]
              rw [if_neg (by intro h; cases h)]
              refine ⟨fun _ _ => trivial, ?_⟩
              go_simp
              refine hK _ _ (mk _ _ _ rfl ?_ ?_)
              rotate_left
              · exact hWI
              · intro j hj h
                rcases j with _ | _ | _ | _ | _ | _ | _ | _ | _ | _ | _ | _ | _ | _ | _ | _ | _ | _ | j
                all_goals first | (rw [hvv]; rfl) | exact hy _ (by omega) (by simpa [put1] using h) | (exfalso; omega)
            · obtain rfl := Option.some.inj ho
              have d6 : L 6 = true := hdep ⟨6, .data⟩ (by simp) rfl
              have d8 : L 8 = true := hdep ⟨8, .data⟩ (by simp) rfl
              have d10 : L 10 = true := hdep ⟨10, .data⟩ (by simp) rfl
              have d4 : L 4 = true := hdep ⟨4, .guard⟩ (by simp) rfl
              have e4 : y 4 = .bool false := (hy 4 (by omega) d4).trans (by rw [hvv]; rfl)
              have e6 : y 6 = undef := (hy 6 (by omega) d6).trans (by rw [hvv]; rfl)
              have e8 : y 8 = undef := (hy 8 (by omega) d8).trans (by rw [hvv]; rfl)
              have e10 : y 10 = undef := (hy 10 (by omega) d10).trans (by rw [hvv]; rfl)
              clear hdep ho
              rw [e4, e6, e8, e10]
              rw [if_neg (by intro h; cases h)]
              refine ⟨fun _ _ => trivial, ?_⟩
              go_simp
              refine hK _ _ (mk _ _ _ rfl ?_ ?_)
              rotate_left
              · exact hWI
              · intro j hj h
                rcases j with _ | _ | _ | _ | _ | _ | _ | _ | _ | _ | _ | _ | _ | _ | _ | _ | _ | _ | j
                all_goals first | (rw [hvv]; rfl) | exact hy _ (by omega) (by simpa [put1] using h) | (exfalso; omega)
            · obtain rfl := Option.some.inj ho
              have d4 : L 4 = true := hdep ⟨4, .guard⟩ (by simp) rfl
              have e4 : y 4 = .bool false := (hy 4 (by omega) d4).trans (by rw [hvv]; rfl)
              clear hdep ho
              rw [e4]
              rw [if_neg (by intro h; cases h)]
              refine ⟨fun _ _ => trivial, ?_⟩
              go_simp
              refine hK _ _ (mk _ _ _ rfl ?_ ?_)
              rotate_left
              · exact hWI
              · intro j hj h
                rcases j with _ | _ | _ | _ | _ | _ | _ | _ | _ | _ | _ | _ | _ | _ | _ | _ | _ | _ | j
                all_goals first | (rw [hvv]; rfl) | exact hy _ (by omega) (by simpa [put1] using h) | (exfalso; omega)
            · obtain rfl := Option.some.inj ho
              have d12 : L 12 = true := hdep ⟨12, .data⟩ (by simp) rfl
              have d4 : L 4 = true := hdep ⟨4, .guard⟩ (by simp) rfl
              have e4 : y 4 = .bool false := (hy 4 (by omega) d4).trans (by rw [hvv]; rfl)
              have e12 : y 12 = undef := (hy 12 (by omega) d12).trans (by rw [hvv]; rfl)
              clear hdep ho
              rw [e4, e12]
              rw [if_neg (by intro h; cases h)]
              refine ⟨fun _ _ => trivial, ?_⟩
              go_simp
              refine hK _ _ (mk _ _ _ rfl ?_ ?_)
              rotate_left
              · exact hWI
              · intro j hj h
                rcases j with _ | _ | _ | _ | _ | _ | _ | _ | _ | _ | _ | _ | _ | _ | _ | _ | _ | _ | j
                all_goals first | (rw [hvv]; rfl) | exact hy _ (by omega) (by simpa [put1] using h) | (exfalso; omega)
            · obtain rfl := Option.some.inj ho
              have d11 : L 11 = true := hdep ⟨11, .data⟩ (by simp) rfl
              have d13 : L 13 = true := hdep ⟨13, .data⟩ (by simp) rfl
              have d4 : L 4 = true := hdep ⟨4, .guard⟩ (by simp) rfl
              have e4 : y 4 = .bool false := (hy 4 (by omega) d4).trans (by rw [hvv]; rfl)
              have e11 : y 11 = undef := (hy 11 (by omega) d11).trans (by rw [hvv]; rfl)
              have e13 : y 13 = undef := (hy 13 (by omega) d13).trans (by rw [hvv]; rfl)
              clear hdep ho
              rw [e4, e11, e13]
              rw [if_neg (by intro h; cases h)]
              refine ⟨fun _ _ => trivial, ?_⟩
              go_simp
              refine hK _ _ (mk _ _ _ rfl ?_ ?_)
              rotate_left
              · exact hWI
              · intro j hj h
                rcases j with _ | _ | _ | _ | _ | _ | _ | _ | _ | _ | _ | _ | _ | _ | _ | _ | _ | _ | j
                all_goals first | (rw [hvv]; rfl) | exact hy _ (by omega) (by simpa [put1] using h) | (exfalso; omega)
            · obtain rfl := Option.some.inj ho
              have d5 : L 5 = true := hdep ⟨5, .data⟩ (by simp) rfl
              have d14 : L 14 = true := hdep ⟨14, .data⟩ (by simp) rfl
              have d4 : L 4 = true := hdep ⟨4, .guard⟩ (by simp) rfl
              have e4 : y 4 = .bool false := (hy 4 (by omega) d4).trans (by rw [hvv]; rfl)
              have e5 : y 5 = undef := (hy 5 (by omega) d5).trans (by rw [hvv]; rfl)
              have e14 : y 14 = undef := (hy 14 (by omega) d14).trans (by rw [hvv]; rfl)
              clear hdep ho
              rw [e4, e5, e14]
              rw [if_neg (by intro h; cases h)]
              refine ⟨fun _ _ => trivial, ?_⟩
              go_simp
              refine hK _ _ (mk _ _ _ rfl ?_ ?_)
              rotate_left
              · exact hWI
              · intro j hj h
                rcases j with _ | _ | _ | _ | _ | _ | _ | _ | _ | _ | _ | _ | _ | _ | _ | _ | _ | _ | j
                all_goals first | (rw [hvv]; rfl) | exact hy _ (by omega) (by simpa [put1] using h) | (exfalso; omega)
            · obtain rfl := Option.some.inj ho
              have d15 : L 15 = true := hdep ⟨15, .data⟩ (by simp) rfl
              have d4 : L 4 = true := hdep ⟨4, .guard⟩ (by simp) rfl
              have e4 : y 4 = .bool false := (hy 4 (by omega) d4).trans (by rw [hvv]; rfl)
              have e15 : y 15 = undef := (hy 15 (by omega) d15).trans (by rw [hvv]; rfl)
              clear hdep ho
              rw [e4, e15]
              rw [if_neg (by intro h; cases h)]
              refine ⟨fun _ _ => trivial, ?_⟩
              go_simp
              refine hK _ _ (mk _ _ _ rfl ?_ ?_)
              rotate_left
              · exact hWI
              · intro j hj h
                rcases j with _ | _ | _ | _ | _ | _ | _ | _ | _ | _ | _ | _ | _ | _ | _ | _ | _ | _ | j
                all_goals first | (rw [hvv]; rfl) | exact hy _ (by omega) (by simpa [put1] using h) | (exfalso; omega)
            · obtain rfl := Option.some.inj ho
              have d4 : L 4 = true := hdep ⟨4, .data⟩ (by simp) rfl
              have d16 : L 16 = true := hdep ⟨16, .data⟩ (by simp) rfl
              have e4 : y 4 = .bool false := (hy 4 (by omega) d4).trans (by rw [hvv]; rfl)
              have e16 : y 16 = undef := (hy 16 (by omega) d16).trans (by rw [hvv]; rfl)
              clear hdep ho
              rw [e4, e16]
              go_simp
              refine hK _ _ (mk _ _ _ rfl ?_ ?_)
              rotate_left
              · exact hWI
              · intro j hj h
                rcases j with _ | _ | _ | _ | _ | _ | _ | _ | _ | _ | _ | _ | _ | _ | _ | _ | _ | _ | j
                all_goals first | (rw [hvv]; rfl) | exact hy _ (by omega) (by simpa [put1] using h) | (exfalso; omega)
            · exfalso; omega
          case rdone =>
            rintro L a w4 hall ⟨y, rfl, hy, hWI⟩
            obtain ⟨hk4, HJ4⟩ := hWI
            have e17 : y 17 = .bool false := (hy 17 (by omega) (hall 17 (by decide))).trans (by rw [hvv]; rfl)
            rw [e17]
            generalize y 0 = y0
            generalize y 1 = y1
            generalize y 2 = y2
            generalize y 3 = y3
            generalize y 4 = y4
            generalize y 5 = y5
            generalize y 6 = y6
            generalize y 7 = y7
            generalize y 8 = y8
            generalize y 9 = y9
            generalize y 10 = y10
            generalize y 11 = y11
            generalize y 12 = y12
            generalize y 13 = y13
            generalize y 14 = y14
            generalize y 15 = y15
            generalize y 16 = y16
            clear mk hvv hy hall e17 HCo
            go_wp2
            exact ⟨⟨j + 1, by omega, by simp, hid (by rw [HF.out, HQQ.out]; exact HJ4.out), hk4⟩, by show n - ((j : Int) + 1).toNat < n - ((j : Int)).toNat; omega⟩
        · have hq : decide ((j : Int) ∈ il f) = false := by simpa using fun h => hin (il_mem.1 h)
          obtain ⟨LL, hLL⟩ : ∃ LL, lsL n left (f ++ [j]) = LL := ⟨_, rfl⟩
          obtain ⟨PP, hPP⟩ : ∃ PP, (pre ++ (List.range j).flatMap fun p => if p ∈ f then [] else lsL n left (f ++ [p])) = PP := ⟨_, rfl⟩
          have HF : Hid (pre ++ (List.range (j + 1)).flatMap (fun p => if p ∈ f then [] else lsL n left (f ++ [p])) = PP ++ LL) := (show _ = _ by rw [hrs, List.flatMap_append, ← List.append_assoc, hPP]; simp [hin, hLL])
          have hpp : PP ++ LL <+: XS := List.IsPrefix.trans (by
            rw [← HF.out, lsL]
            obtain ⟨q, hq⟩ : ∃ q, n = (j + 1) + q := ⟨n - (j + 1), by omega⟩
            rw [hq, List.range_add (n := j + 1), List.flatMap_append, ← List.append_assoc]
            exact List.prefix_append _ _) HPRE.out
          rw [hPP] at HJw
          rw [hq] at HCo
          obtain ⟨w8, hw8⟩ : ∃ w8, wr.drew.alloc (.cells #[.int .i64 j] 3) = w8 := ⟨_, rfl⟩
          have hb8 : Below wr.heap.size wr w8 := by rw [← hw8]; exact below_alloc (below_drew (Below.refl _ _)) _
          have hz8 : w8.heap.size = wr.heap.size + 1 := by rw [← hw8]; simp
          have hk8 : KC B W w8 := hk1.trans (KC.of_below hb8)
          obtain ⟨v9, w9, hrun, own9, hb9⟩ := append_full (A := A) (c := c) (m := f.length) (xs := il f) (p := (j : Int)) (g := wr.heap.size) (W := w8) (base := B) (own_KC HOW.out hk8 (Nat.le_refl _)) (by rw [← hw8]; simp [go_sem]) (by omega)
          have hk9 : KC B W w9 := hk8.trans (KC.of_below hb9)
          have hk2 : KC B W wr.drew := hk1.trans (KC.of_below (below_drew (Below.refl _ _)))
          have hfc : f.length ≤ c := own_cap HOW.out
          have hAA : (if f.length = 0 then A else Option.map (fun x => x.add 0) A) = A := by split <;> first | rfl | exact opt_add A
          have hdown := hid ((IH j v9 PP w9).out (by have := own_less own9 (show B ≤ _ by omega); simpa [ROw, il] using this) (by have := hb9.size; omega) (by rw [hLL]; exact hpp) (HJ.out _ _ _ (HJ.out _ _ _ HJw.out (grown_of_below hb8 none)) (grown_of_below hb9 none)) (hk9.cell h1 c1) (hk9.cell h2 c2) (hk9.cell h3 c3) (hk9.cell h4 c4))
          rw [hLL] at hdown
          clear hin hq hrs hpp IH HPRE hLL hPP own9 hb9 c1 c2 c3 c1' c2' c3' c4'
          go_upto_region 6 with (fail)
          refine (wpIn_wide (n := 8)).1 ?_
          obtain ⟨vv, hvv⟩ : ∃ vv : Nat → Value, vv = fun i => (#[.slice A f.length c, .int .i64 j, .bool false, .bool true, .bool true, downV B1 B2 B3 B4, .slice A f.length c, .slice A f.length c, .int .i64 f.length, .slice A f.length c, .int .i64 f.length, .slice A f.length f.length, .int .i64 j, .slice (some ⟨wr.heap.size, 0, none⟩) 1 1, v9, .bool true, .bool false, .bool false] : Array Value).getD i undef := ⟨_, rfl⟩
          have mk : ∀ (L : Nat → Bool) (a' : Act) (w' : World), a' = ({ tmps := #[.slice A f.length c, .pointer (some ⟨B1, 0, none⟩), .pointer (some ⟨B2, 0, none⟩), .pointer (some ⟨B3, 0, none⟩), .pointer (some ⟨B4, 0, none⟩), undef, u6, .int .i64 j, .slice A f.length c, .int .i64 f.length, .int .i64 k, .bool false, undef, undef, undef, .int .i64 n, .int .i64 j, .bool true, .int .i64 j, a'.tmps.getD (19 + 0) undef, a'.tmps.getD (19 + 1) undef, a'.tmps.getD (19 + 2) undef, a'.tmps.getD (19 + 3) undef, a'.tmps.getD (19 + 4) undef, a'.tmps.getD (19 + 5) undef, a'.tmps.getD (19 + 6) undef, a'.tmps.getD (19 + 7) undef, a'.tmps.getD (19 + 8) undef, a'.tmps.getD (19 + 9) undef, a'.tmps.getD (19 + 10) undef, a'.tmps.getD (19 + 11) undef, a'.tmps.getD (19 + 12) undef, a'.tmps.getD (19 + 13) undef, a'.tmps.getD (19 + 14) undef, a'.tmps.getD (19 + 15) undef, a'.tmps.getD (19 + 16) undef, a'.tmps.getD (19 + 17) undef, u37], defers := [] } : Act) → (∀ j < 18, L j = true → a'.tmps.getD (19 + j) undef = vv j) → (fun (L : Nat → Bool) (wz : World) => KC B W wz ∧ ((L 13 = false ∧ L 14 = false ∧ L 15 = false ∧ wz = wr.drew) ∨ (L 13 = true ∧ L 14 = false ∧ L 15 = false ∧ wz = w8) ∨ (L 13 = true ∧ L 14 = true ∧ L 15 = false ∧ wz = w9) ∨ (L 13 = true ∧ L 14 = true ∧ L 15 = true ∧ Hid (J (PP ++ LL) wz)))) L w' → ∃ y : Nat → Value, a' = ({ tmps := #[.slice A f.length c, .pointer (some ⟨B1, 0, none⟩), .pointer (some ⟨B2, 0, none⟩), .pointer (some ⟨B3, 0, none⟩), .pointer (some ⟨B4, 0, none⟩), undef, u6, .int .i64 j, .slice A f.length c, .int .i64 f.length, .int .i64 k, .bool false, undef, undef, undef, .int .i64 n, .int .i64 j, .bool true, .int .i64 j, y 0, y 1, y 2, y 3, y 4, y 5, y 6, y 7, y 8, y 9, y 10, y 11, y 12, y 13, y 14, y 15, y 16, y 17, u37], defers := [] } : Act) ∧ (∀ j < 18, L j = true → y j = vv j) ∧ (fun (L : Nat → Bool) (wz : World) => KC B W wz ∧ ((L 13 = false ∧ L 14 = false ∧ L 15 = false ∧ wz = wr.drew) ∨ (L 13 = true ∧ L 14 = false ∧ L 15 = false ∧ wz = w8) ∨ (L 13 = true ∧ L 14 = true ∧ L 15 = false ∧ wz = w9) ∨ (L 13 = true ∧ L 14 = true ∧ L 15 = true ∧ Hid (J (PP ++ LL) wz)))) L w' := fun L a' w' h1 h2 h3 => ⟨fun m => a'.tmps.getD (19 + m) undef, h1, h2, h3⟩
          refine wpIn_region_inv (by kernel_rfl) (fun L aI wI => ∃ y : Nat → Value, aI = ({ tmps := #[.slice A f.length c, .pointer (some ⟨B1, 0, none⟩), .pointer (some ⟨B2, 0, none⟩), .pointer (some ⟨B3, 0, none⟩), .pointer (some ⟨B4, 0, none⟩), undef, u6, .int .i64 j, .slice A f.length c, .int .i64 f.length, .int .i64 k, .bool false, undef, undef, undef, .int .i64 n, .int .i64 j, .bool true, .int .i64 j, y 0, y 1, y 2, y 3, y 4, y 5, y 6, y 7, y 8, y 9, y 10, y 11, y 12, y 13, y 14, y 15, y 16, y 17, u37], defers := [] } : Act) ∧ (∀ j < 18, L j = true → y j = vv j) ∧ (fun (L : Nat → Bool) (wz : World) => KC B W wz ∧ ((L 13 = false ∧ L 14 = false ∧ L 15 = false ∧ wz = wr.drew) ∨ (L 13 = true ∧ L 14 = false ∧ L 15 = false ∧ wz = w8) ∨ (L 13 = true ∧ L 14 = true ∧ L 15 = false ∧ wz = w9) ∨ (L 13 = true ∧ L 14 = true ∧ L 15 = true ∧ Hid (J (PP ++ LL) wz)))) L wI) ?acyc ?start ?step ?rdone
          case acyc => exact fun i o ho => acyc_of (by kernel_rfl) i o ho
          case start => exact mk (fun _ => false) _ _ rfl (fun _ _ h => by cases h) (by exact ⟨hk2, .inl ⟨rfl, rfl, rfl, rfl⟩⟩)
          case step =>
            rintro i o L a wx ho hLi hdep ⟨y, rfl, hy, hWI⟩ K hK
            have hi : i < 18 := (Array.getElem?_eq_some_iff.1 ho).1
            rcases i with _ | _ | _ | _ | _ | _ | _ | _ | _ | _ | _ | _ | _ | _ | _ | _ | _ | _ | i
            · obtain rfl := Option.some.inj ho
              clear hdep ho
              go_simp
              refine hK _ _ (mk _ _ _ rfl ?_ ?_)
              rotate_left
              · exact ⟨hWI.1, by simpa [put1] using hWI.2⟩
              · intro j hj h
                rcases j with _ | _ | _ | _ | _ | _ | _ | _ | _ | _ | _ | _ | _ | _ | _ | _ | _ | _ | j
                all_goals first | (rw [hvv]; rfl) | exact hy _ (by omega) (by simpa [put1] using h) | (exfalso; omega)
            · obtain rfl := Option.some.inj ho
              clear hdep ho
              go_simp
              refine hK _ _ (mk _ _ _ rfl ?_ ?_)
              rotate_left
              · exact ⟨hWI.1, by simpa [put1] using hWI.2⟩
              · intro j hj h
                rcases j with _ | _ | _ | _ | _ | _ | _ | _ | _ | _ | _ | _ | _ | _ | _ | _ | _ | _ | j
                all_goals first | (rw [hvv]; rfl) | exact hy _ (by omega) (by simpa [put1] using h) | (exfalso; omega)
            · obtain rfl := Option.some.inj ho
              have d0 : L 0 = true := hdep ⟨0, .data⟩ (by simp) rfl
              have d1 : L 1 = true := hdep ⟨1, .data⟩ (by simp) rfl
              have e0 : y 0 = .slice A f.length c := (hy 0 (by omega) d0).trans (by rw [hvv]; rfl)
              have e1 : y 1 = .int .i64 j := (hy 1 (by omega) d1).trans (by rw [hvv]; rfl)
              clear hdep ho
              rw [e0, e1]
              go_simp
              gi_wp2_with (refine ⟨trivial, ?_⟩; gi_at_call 55; refine (callsIn_wide.2 (HCo.out _ (by exact hWI.1))).mono ?_; rintro e w' ⟨rfl, rfl⟩)
              refine mk _ _ _ rfl ?_ ?_
              rotate_left
              · exact ⟨hWI.1, by simpa [put1] using hWI.2⟩
              · intro j hj h
                rcases j with _ | _ | _ | _ | _ | _ | _ | _ | _ | _ | _ | _ | _ | _ | _ | _ | _ | _ | j
                all_goals first | (rw [hvv]; rfl) | exact hy _ (by omega) (by simpa [put1] using h) | (exfalso; omega)
            · obtain rfl := Option.some.inj ho
              have d2 : L 2 = true := hdep ⟨2, .data⟩ (by simp) rfl
              have e2 : y 2 = .bool false := (hy 2 (by omega) d2).trans (by rw [hvv]; rfl)
              clear hdep ho
              rw [e2]
              go_simp
              refine hK _ _ (mk _ _ _ rfl ?_ ?_)
              rotate_left
              · exact ⟨hWI.1, by simpa [put1] using hWI.2⟩
              · intro j hj h
                rcases j with _ | _ | _ | _ | _ | _ | _ | _ | _ | _ | _ | _ | _ | _ | _ | _ | _ | _ | j
                all_goals first | (rw [hvv]; rfl) | exact hy _ (by omega) (by simpa [put1] using h) | (exfalso; omega)
            · obtain rfl := Option.some.inj ho
              have d3 : L 3 = true := hdep ⟨3, .data⟩ (by simp) rfl
              have e3 : y 3 = .bool true := (hy 3 (by omega) d3).trans (by rw [hvv]; rfl)
              clear hdep ho
              rw [e3]
              go_simp
              refine hK _ _ (mk _ _ _ rfl ?_ ?_)
              rotate_left
              · exact ⟨hWI.1, by simpa [put1] using hWI.2⟩
              · intro j hj h
                rcases j with _ | _ | _ | _ | _ | _ | _ | _ | _ | _ | _ | _ | _ | _ | _ | _ | _ | _ | j
                all_goals first | (rw [hvv]; rfl) | exact hy _ (by omega) (by simpa [put1] using h) | (exfalso; omega)
            · obtain rfl := Option.some.inj ho
              have d4 : L 4 = true := hdep ⟨4, .guard⟩ (by simp) rfl
              have e4 : y 4 = .bool true := (hy 4 (by omega) d4).trans (by rw [hvv]; rfl)
              clear hdep ho
              rw [e4]
              have hcl := hWI.1.cell h4 c4
              rw [if_pos (by rfl)]
              go_simp
              refine hK _ _ (mk _ _ _ rfl ?_ ?_)
              rotate_left
              · exact ⟨hWI.1, by simpa [put1] using hWI.2⟩
              · intro j hj h
                rcases j with _ | _ | _ | _ | _ | _ | _ | _ | _ | _ | _ | _ | _ | _ | _ | _ | _ | _ | j
                all_goals first | (rw [hvv]; rfl) | exact hy _ (by omega) (by simpa [put1] using h) | (exfalso; omega)
            · obtain rfl := Option.some.inj ho
              have d4 : L 4 = true := hdep ⟨4, .guard⟩ (by simp) rfl
              have e4 : y 4 = .bool true := (hy 4 (by omega) d4).trans (by rw [hvv]; rfl)
              clear hdep ho
              rw [e4]
              rw [if_pos (by rfl)]
              go_simp
              refine hK _ _ (mk _ _ _ rfl ?_ ?_)
              rotate_left
              · exact ⟨hWI.1, by simpa [put1] using hWI.2⟩
              · intro j hj h
                rcases j with _ | _ | _ | _ | _ | _ | _ | _ | _ | _ | _ | _ | _ | _ | _ | _ | _ | _ | j
                all_goals first | (rw [hvv]; rfl) | exact hy _ (by omega) (by simpa [put1] using h) | (exfalso; omega)
            · obtain rfl := Option.some.inj ho
              have d4 : L 4 = true := hdep ⟨4, .guard⟩ (by simp) rfl
              have e4 : y 4 = .bool true := (hy 4 (by omega) d4).trans (by rw [hvv]; rfl)
              clear hdep ho
              rw [e4]
              rw [if_pos (by rfl)]
              go_simp
              refine hK _ _ (mk _ _ _ rfl ?_ ?_)
              rotate_left
              · exact ⟨hWI.1, by simpa [put1] using hWI.2⟩
              · intro j hj h
                rcases j with _ | _ | _ | _ | _ | _ | _ | _ | _ | _ | _ | _ | _ | _ | _ | _ | _ | _ | j
                all_goals first | (rw [hvv]; rfl) | exact hy _ (by omega) (by simpa [put1] using h) | (exfalso; omega)
            · obtain rfl := Option.some.inj ho
              have d7 : L 7 = true := hdep ⟨7, .data⟩ (by simp) rfl
              have d4 : L 4 = true := hdep ⟨4, .guard⟩ (by simp) rfl
              have e4 : y 4 = .bool true := (hy 4 (by omega) d4).trans (by rw [hvv]; rfl)
              have e7 : y 7 = .slice A f.length c := (hy 7 (by omega) d7).trans (by rw [hvv]; rfl)
              clear hdep ho
              rw [e4, e7]
              rw [if_pos (by rfl)]
              go_simp
              refine hK _ _ (mk _ _ _ rfl ?_ ?_)
              rotate_left
              · exact ⟨hWI.1, by simpa [put1] using hWI.2⟩
              · intro j hj h
                rcases j with _ | _ | _ | _ | _ | _ | _ | _ | _ | _ | _ | _ | _ | _ | _ | _ | _ | _ | j
                all_goals first | (rw [hvv]; rfl) | exact hy _ (by omega) (by simpa [put1] using h) | (exfalso; omega)
            · obtain rfl := Option.some.inj ho
              have d4 : L 4 = true := hdep ⟨4, .guard⟩ (by simp) rfl
              have e4 : y 4 = .bool true := (hy 4 (by omega) d4).trans (by rw [hvv]; rfl)
              clear hdep ho
              rw [e4]
              rw [if_pos (by rfl)]
              go_simp
              refine hK _ _ (mk _ _ _ rfl ?_ ?_)
              rotate_left
              · exact ⟨hWI.1, by simpa [put1] using hWI.2⟩
              · intro j hj h
                rcases j with _ | _ | _ | _ | _ | _ | _ | _ | _ | _ | _ | _ | _ | _ | _ | _ | _ | _ | j
                all_goals first | (rw [hvv]; rfl) | exact hy _ (by omega) (by simpa [put1] using h) | (exfalso; omega)
            · obtain rfl := Option.some.inj ho
              have d9 : L 9 = true := hdep ⟨9, .data⟩ (by simp) rfl
              have d4 : L 4 = true := hdep ⟨4, .guard⟩ (by simp) rfl
              have e4 : y 4 = .bool true := (hy 4 (by omega) d4).trans (by rw [hvv]; rfl)
              have e9 : y 9 = .slice A f.length c := (hy 9 (by omega) d9).trans (by rw [hvv]; rfl)
              clear hdep ho
              rw [e4, e9]
              rw [if_pos (by rfl)]
              go_simp
              refine hK _ _ (mk _ _ _ rfl ?_ ?_)
              rotate_left
              · exact ⟨hWI.1, by simpa [put1] using hWI.2⟩
              · intro j hj h
                rcases j with _ | _ | _ | _ | _ | _ | _ | _ | _ | _ | _ | _ | _ | _ | _ | _ | _ | _ | j
                all_goals first | (rw [hvv]; rfl) | exact hy _ (by omega) (by simpa [put1] using h) | (exfalso; omega)
            · obtain rfl := Option.some.inj ho
              have d6 : L 6 = true := hdep ⟨6, .data⟩ (by simp) rfl
              have d8 : L 8 = true := hdep ⟨8, .data⟩ (by simp) rfl
              have d10 : L 10 = true := hdep ⟨10, .data⟩ (by simp) rfl
              have d4 : L 4 = true := hdep ⟨4, .guard⟩ (by simp) rfl
              have e4 : y 4 = .bool true := (hy 4 (by omega) d4).trans (by rw [hvv]; rfl)
              have e6 : y 6 = .slice A f.length c := (hy 6 (by omega) d6).trans (by rw [hvv]; rfl)
              have e8 : y 8 = .int .i64 f.length := (hy 8 (by omega) d8).trans (by rw [hvv]; rfl)
              have e10 : y 10 = .int .i64 f.length := (hy 10 (by omega) d10).trans (by rw [hvv]; rfl)
              clear hdep ho
              rw [e4, e6, e8, e10]
              rw [if_pos (by rfl)]
              go_simp
              refine hK _ _ (mk _ _ _ rfl ?_ ?_)
              rotate_left
              · exact ⟨hWI.1, by simpa [put1] using hWI.2⟩
              · intro j hj h
                rcases j with _ | _ | _ | _ | _ | _ | _ | _ | _ | _ | _ | _ | _ | _ | _ | _ | _ | _ | j
                all_goals first | (rw [hvv]; rfl) | exact hy _ (by omega) (by simpa [put1] using h) | (exfalso; omega)
            · obtain rfl := Option.some.inj ho
              have d4 : L 4 = true := hdep ⟨4, .guard⟩ (by simp) rfl
              have e4 : y 4 = .bool true := (hy 4 (by omega) d4).trans (by rw [hvv]; rfl)
              clear hdep ho
              rw [e4]
              rw [if_pos (by rfl)]
              go_simp
              refine hK _ _ (mk _ _ _ rfl ?_ ?_)
              rotate_left
              · exact ⟨hWI.1, by simpa [put1] using hWI.2⟩
              · intro j hj h
                rcases j with _ | _ | _ | _ | _ | _ | _ | _ | _ | _ | _ | _ | _ | _ | _ | _ | _ | _ | j
                all_goals first | (rw [hvv]; rfl) | exact hy _ (by omega) (by simpa [put1] using h) | (exfalso; omega)
            · obtain rfl := Option.some.inj ho
              have d12 : L 12 = true := hdep ⟨12, .data⟩ (by simp) rfl
              have d4 : L 4 = true := hdep ⟨4, .guard⟩ (by simp) rfl
              have e4 : y 4 = .bool true := (hy 4 (by omega) d4).trans (by rw [hvv]; rfl)
              have e12 : y 12 = .int .i64 j := (hy 12 (by omega) d12).trans (by rw [hvv]; rfl)
              clear hdep ho
              rw [e4, e12]
              obtain ⟨f14, f15, rfl⟩ : L 14 = false ∧ L 15 = false ∧ wx = wr.drew := by
                rcases hWI.2 with ⟨_, h1, h2, h⟩ | ⟨h, _⟩ | ⟨h, _⟩ | ⟨h, _⟩
                · exact ⟨h1, h2, h⟩
                all_goals (rw [hLi] at h; cases h)
              rw [if_pos (by rfl)]
              go_simp
              refine hK _ _ (mk _ _ _ rfl ?_ ?_)
              rotate_left
              · exact ⟨hk8, .inr (.inl ⟨by simp [put1], by simpa [put1] using f14, by simpa [put1] using f15, by rw [← hw8]⟩)⟩
              · intro j hj h
                rcases j with _ | _ | _ | _ | _ | _ | _ | _ | _ | _ | _ | _ | _ | _ | _ | _ | _ | _ | j
                all_goals first | (rw [hvv]; rfl) | exact hy _ (by omega) (by simpa [put1] using h) | (exfalso; omega)
            · obtain rfl := Option.some.inj ho
              have d11 : L 11 = true := hdep ⟨11, .data⟩ (by simp) rfl
              have d13 : L 13 = true := hdep ⟨13, .data⟩ (by simp) rfl
              have d4 : L 4 = true := hdep ⟨4, .guard⟩ (by simp) rfl
              have e4 : y 4 = .bool true := (hy 4 (by omega) d4).trans (by rw [hvv]; rfl)
              have e11 : y 11 = .slice A f.length f.length := (hy 11 (by omega) d11).trans (by rw [hvv]; rfl)
              have e13 : y 13 = .slice (some ⟨wr.heap.size, 0, none⟩) 1 1 := (hy 13 (by omega) d13).trans (by rw [hvv]; rfl)
              clear hdep ho
              rw [e4, e11, e13]
              obtain ⟨f15, rfl⟩ : L 15 = false ∧ wx = w8 := by
                rcases hWI.2 with ⟨h, _⟩ | ⟨_, _, h1, h2⟩ | ⟨_, h, _⟩ | ⟨_, h, _⟩
                · rw [d13] at h; cases h
                · exact ⟨h1, h2⟩
                all_goals (rw [hLi] at h; cases h)
              rw [if_pos (by rfl)]
              refine operIn_app (.tmp 30) (.tmp 32) 27 _ _ v9 rfl rfl rfl hrun ?_
              go_simp
              refine hK _ _ (mk _ _ _ rfl ?_ ?_)
              rotate_left
              · exact ⟨hk9, .inr (.inr (.inl ⟨by simpa [put1] using d13, by simp [put1], by simpa [put1] using f15, rfl⟩))⟩
              · intro j hj h
                rcases j with _ | _ | _ | _ | _ | _ | _ | _ | _ | _ | _ | _ | _ | _ | _ | _ | _ | _ | j
                all_goals first | (rw [hvv]; rfl) | exact hy _ (by omega) (by simpa [put1] using h) | (exfalso; omega)
            · obtain rfl := Option.some.inj ho
              have d5 : L 5 = true := hdep ⟨5, .data⟩ (by simp) rfl
              have d14 : L 14 = true := hdep ⟨14, .data⟩ (by simp) rfl
              have d4 : L 4 = true := hdep ⟨4, .guard⟩ (by simp) rfl
              have e4 : y 4 = .bool true := (hy 4 (by omega) d4).trans (by rw [hvv]; rfl)
              have e5 : y 5 = downV B1 B2 B3 B4 := (hy 5 (by omega) d5).trans (by rw [hvv]; rfl)
              have e14 : y 14 = v9 := (hy 14 (by omega) d14).trans (by rw [hvv]; rfl)
              clear hdep ho
              rw [e4, e5, e14]
              obtain ⟨f13, rfl⟩ : L 13 = true ∧ wx = w9 := by
                rcases hWI.2 with ⟨_, h, _⟩ | ⟨_, h, _⟩ | ⟨h1, _, _, h2⟩ | ⟨_, _, h, _⟩
                · rw [d14] at h; cases h
                · rw [d14] at h; cases h
                · exact ⟨h1, h2⟩
                · rw [hLi] at h; cases h
              rw [if_pos (by rfl)]
              go_simp
              gi_wp2_with (refine ⟨trivial, ?_⟩; gi_at_call 57; refine (callsIn_wide.2 hdown.out).mono ?_; rintro e w' ⟨rfl, hJ', hk'⟩)
              refine mk _ _ _ rfl ?_ ?_
              rotate_left
              · exact ⟨hk9.trans hk', .inr (.inr (.inr ⟨by simpa [put1] using f13, by simpa [put1] using d14, by simp [put1], hid hJ'⟩))⟩
              · intro j hj h
                rcases j with _ | _ | _ | _ | _ | _ | _ | _ | _ | _ | _ | _ | _ | _ | _ | _ | _ | _ | j
                all_goals first | (rw [hvv]; rfl) | exact hy _ (by omega) (by simpa [put1] using h) | (exfalso; omega)
            · obtain rfl := Option.some.inj ho
              have d15 : L 15 = true := hdep ⟨15, .data⟩ (by simp) rfl
              have d4 : L 4 = true := hdep ⟨4, .guard⟩ (by simp) rfl
              have e4 : y 4 = .bool true := (hy 4 (by omega) d4).trans (by rw [hvv]; rfl)
              have e15 : y 15 = .bool true := (hy 15 (by omega) d15).trans (by rw [hvv]; rfl)
              clear hdep ho
              rw [e4, e15]
              rw [if_pos (by rfl)]
              go_simp
              refine hK _ _ (mk _ _ _ rfl ?_ ?_)
              rotate_left
              · exact ⟨hWI.1, by simpa [put1] using hWI.2⟩
              · intro j hj h
                rcases j with _ | _ | _ | _ | _ | _ | _ | _ | _ | _ | _ | _ | _ | _ | _ | _ | _ | _ | j
                all_goals first | (rw [hvv]; rfl) | exact hy _ (by omega) (by simpa [put1] using h) | (exfalso; omega)
            · obtain rfl := Option.some.inj ho
              have d4 : L 4 = true := hdep ⟨4, .data⟩ (by simp) rfl
              have d16 : L 16 = true := hdep ⟨16, .data⟩ (by simp) rfl
              have e4 : y 4 = .bool true := (hy 4 (by omega) d4).trans (by rw [hvv]; rfl)
              have e16 : y 16 = .bool false := (hy 16 (by omega) d16).trans (by rw [hvv]; rfl)
              clear hdep ho
              rw [e4, e16]
              go_simp
              refine hK _ _ (mk _ _ _ rfl ?_ ?_)
              rotate_left
              · exact ⟨hWI.1, by simpa [put1] using hWI.2⟩
              · intro j hj h
                rcases j with _ | _ | _ | _ | _ | _ | _ | _ | _ | _ | _ | _ | _ | _ | _ | _ | _ | _ | j
                all_goals first | (rw [hvv]; rfl) | exact hy _ (by omega) (by simpa [put1] using h) | (exfalso; omega)
            · exfalso; omega
          case rdone =>
            rintro L a w4 hall ⟨y, rfl, hy, hWI⟩
            obtain ⟨hk4, hWI⟩ := hWI
            have HJ4 : Hid (J (PP ++ LL) w4) := by
              rcases hWI with ⟨h, _⟩ | ⟨_, h, _⟩ | ⟨_, _, h, _⟩ | ⟨_, _, _, h⟩
              · rw [hall 13 (by decide)] at h; cases h
              · rw [hall 14 (by decide)] at h; cases h
              · rw [hall 15 (by decide)] at h; cases h
              · exact h
            have e17 : y 17 = .bool false := (hy 17 (by omega) (hall 17 (by decide))).trans (by rw [hvv]; rfl)
            rw [e17]
            generalize y 0 = y0
            generalize y 1 = y1
            generalize y 2 = y2
            generalize y 3 = y3
            generalize y 4 = y4
            generalize y 5 = y5
            generalize y 6 = y6
            generalize y 7 = y7
            generalize y 8 = y8
            generalize y 9 = y9
            generalize y 10 = y10
            generalize y 11 = y11
            generalize y 12 = y12
            generalize y 13 = y13
            generalize y 14 = y14
            generalize y 15 = y15
            generalize y 16 = y16
            clear mk hvv hy hall e17 HCo hWI hdown hrun
            go_wp2
            exact ⟨⟨j + 1, by omega, by simp, hid (by rw [HF.out]; exact HJ4.out), hk4⟩, by show n - ((j : Int) + 1).toNat < n - ((j : Int)).toNat; omega⟩
      · obtain rfl : j = n := by omega
        go_wp2
        go_ret
        exact ⟨rfl, HJw.out, hk1⟩
end Go.Proofs.Ytheclfjbedajfaa


namespace Go.Proofs.Ytheclfjbedajfaa
set_option linter.unusedSimpArgs false
set_option linter.unusedVariables false
open Go.RowKit Go.Lib Go.Shelf Go.Proofs.YtheclfjbedajfaaW.PrintWords

set_option maxHeartbeats 1000000 in
set_option maxRecDepth 100000 in
theorem lists_iter (n k B Bk Bn : Nat) (w : World) (hn : n ≤ 16) (hk : k ≤ 16) (h1 : B ≤ Bk) (h3 : B ≤ Bn) (l1 : Bk < w.heap.size) (l3 : Bn < w.heap.size) (ck : w.cell? ⟨Bk, 0, none⟩ = some (.int .i64 k)) (cn : w.cell? ⟨Bn, 0, none⟩ = some (.int .i64 n)) :
    IterM Try.prog 56 (fun y => #[] ++ #[y] ++ #[.pointer (some ⟨Bk, 0, none⟩), .pointer (some ⟨Bn, 0, none⟩)]) (fun x v W => ROw B x v W) (KC B) (lsL n k []) w := by
  intro l J W hW hsz hJ hY h0
  have hg : ∀ s W1 W2, J s W1 → W1.grownBy W2 none → J s W2 := fun s W1 W2 hs hg => hJ s W1 W2 none hs hg (by rintro r ⟨⟩)
  have ck' := (hW.cell (p := ⟨Bk, 0, none⟩) l1).trans ck
  have cn' := (hW.cell (p := ⟨Bn, 0, none⟩) l3).trans cn
  obtain ⟨W3, hW3⟩ : ∃ W3, ((W.alloc (.cells #[.func (.yield l) #[] #[]] 95)).alloc (.cells #[Value.nilFunc] 95)).setCell ⟨W.heap.size + 1, 0, none⟩ (downV Bk W.heap.size Bn (W.heap.size + 1)) = W3 := ⟨_, rfl⟩
  have hb3 : Below W.heap.size W W3 := by rw [← hW3]; exact (below_alloc (below_alloc (Below.refl _ _) _) _).setCell (p := ⟨W.heap.size + 1, 0, none⟩) (Nat.le_succ _) _
  have hz3 : W.heap.size + 2 ≤ W3.heap.size := by rw [← hW3]; simp [go_sem]
  have k3 := (hb3.cell (p := ⟨Bk, 0, none⟩) (show Bk < _ by omega)).trans ck'
  have n3 := (hb3.cell (p := ⟨Bn, 0, none⟩) (show Bn < _ by omega)).trans cn'
  have y3 : W3.cell? ⟨W.heap.size, 0, none⟩ = some (.func (.yield l) #[] #[]) := by rw [← hW3]; simp [go_sem]
  have d3 : W3.cell? ⟨W.heap.size + 1, 0, none⟩ = some (downV Bk W.heap.size Bn (W.heap.size + 1)) := by rw [← hW3]; simp [go_sem]
  have HD := hid (down_any l B n k hn hk (lsL n k []) J hg hY Bk W.heap.size Bn (W.heap.size + 1) h1 (by omega) h3 (by omega) k [] (.slice none 0 0) [] W3 (by simp) (World.ownsRow_nil _ _ _ _) (by omega) (List.prefix_refl _) (hg _ _ _ h0 (grown_of_below hb3 none)) k3 y3 n3 d3)
  clear hY h0 hJ hg
  show Calls _ _ #[.func (.yield l) #[] #[], .pointer (some ⟨Bk, 0, none⟩), .pointer (some ⟨Bn, 0, none⟩)] _ _
  go_enter Try.func56, Try.ntmps56
  go_wp2_with (go_at_call 57; refine HD.out.mono ?_; rintro e w' ⟨rfl, hJ', -⟩)
  exact bodyPost_end (v := .tuple #[]) (by simp [results, Try.results56, go_sem]) rfl ⟨⟨_, rfl⟩, hJ'⟩
theorem lists_any (n k : Nat) (w : World) : Calls Try.prog 51 #[.int .i64 n, .int .i64 k] w fun e w' =>
    e = .returned (.func (.func 56) #[] #[.pointer (some ⟨w.heap.size + 1, 0, none⟩), .pointer (some ⟨w.heap.size, 0, none⟩)]) ∧
      w'.cell? ⟨w.heap.size + 1, 0, none⟩ = some (.int .i64 k) ∧ w'.cell? ⟨w.heap.size, 0, none⟩ = some (.int .i64 n) ∧ Below w.heap.size w w' ∧ w'.heap.size = w.heap.size + 2 := by
  go_enter Try.func51, Try.ntmps51
  go_wp2
  go_ret
  exact ⟨rfl, by simp [go_sem], by simp [go_sem], below_alloc (below_alloc (Below.refl _ _) _) _, by simp⟩
end Go.Proofs.Ytheclfjbedajfaa
