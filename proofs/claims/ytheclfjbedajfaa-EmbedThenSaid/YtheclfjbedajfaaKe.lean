/- embed.Kept, walked: slices.IndexFunc, slices.DeleteFunc at ints with its closure, and Kept itself. -/
import Derived.Test.YtheclfjbedajfaaCi
import Derived.Lib.SliceRun
namespace Go.Proofs.Ytheclfjbedajfaa
set_option linter.unusedSimpArgs false
set_option linter.unusedVariables false
open Go.RowKit Go.Lib Go.Shelf Go.Proofs.YtheclfjbedajfaaW.PrintWords
attribute [local go_sem] Oper.semAt_some

/-- Whether a block is kept, by the list of images. -/
def keepB (M : List Int) (i : Int) : Bool := decide (0 ≤ i) && decide (i < M.length) && decide (0 ≤ rd M i)
def keptL (M done : List Int) : List Int := done.filter (keepB M)
theorem rd_of {l : List Int} {k : Nat} {x : Int} (h : l[k]? = some x) : rd l (k : Int) = x := by
  unfold rd; rw [List.getD_eq_getElem?_getD, Int.toNat_natCast, h]; rfl
/-- The closure's own answer. -/
theorem strike_any (g : Nat) (F : Value) (A : Option Addr) (c : Nat) (M : List Int) (i : Int) (w : World) (hB : Blk w g 29 #[F, .slice A M.length c]) (hM : IC w A M.length M) :
    Calls Try.prog 39 #[.int .i64 i, .pointer (some ⟨g, 0, none⟩)] w fun e w' => e = .returned (.bool (!keepB M i)) ∧ w' = w := by
  have hc1 : w.cell? ⟨g, 1, none⟩ = some (.slice A M.length c) := by rw [hB.cell 1]; rfl
  go_enter Try.func39, Try.ntmps39
  by_cases h0 : i < 0
  · have q0 : decide (i < 0) = true := by simp [h0]
    have HF : Hid (keepB M i = false) := by show _ = _; unfold keepB; simp; omega
    go_wp2
    go_ret
    exact ⟨ret_bool (by rw [HF.out]; rfl), rfl⟩
  · have q0 : decide (i < 0) = false := by simp [h0]
    by_cases h1 : (M.length : Int) ≤ i
    · have q1 : decide ((M.length : Int) ≤ i) = true := by simp [h1]
      have HF : Hid (keepB M i = false) := by show _ = _; unfold keepB; simp; omega
      go_wp2
      go_ret
      exact ⟨ret_bool (by rw [HF.out]; rfl), rfl⟩
    · have q1 : decide ((M.length : Int) ≤ i) = false := by simp [h1]
      obtain ⟨k, rfl⟩ := Int.eq_ofNat_of_zero_le (show 0 ≤ i by omega)
      have hk : k < M.length := by omega
      obtain ⟨ad, x, rfl, hcx, HX⟩ := IC.at_ hM hk
      by_cases hx : x < 0
      · have q2 : decide (x < 0) = true := by simp [hx]
        have HF : Hid (keepB M k = false) := by show _ = _; unfold keepB; rw [rd_of HX.out.1]; simp; omega
        go_wp2
        go_ret
        exact ⟨ret_bool (by rw [HF.out]; rfl), rfl⟩
      · have q2 : decide (x < 0) = false := by simp [hx]
        have HF : Hid (keepB M k = true) := by show _ = _; unfold keepB; rw [rd_of HX.out.1]; simp; omega
        go_wp2
        go_ret
        exact ⟨ret_bool (by rw [HF.out]; rfl), rfl⟩
/-- The closure asked in whatever world lies on the first one. -/
abbrev Asks (B g : Nat) (q : Int → Bool) (w0 : World) : Prop := ∀ (W : World) (i : Int), Below B w0 W → Calls Try.prog 39 #[.int .i64 i, .pointer (some ⟨g, 0, none⟩)] W fun e w' => e = .returned (.bool (q i)) ∧ w' = W
theorem hit_or (q : Int → Bool) (xs : List Int) : (∀ x ∈ xs, q x = false) ∨ ∃ (k : Nat) (x : Int), xs[k]? = some x ∧ q x = true ∧ ∀ y ∈ xs.take k, q y = false := by
  induction xs with
  | nil => exact .inl (by simp)
  | cons a r ih =>
    cases ha : q a with
    | true => exact .inr ⟨0, a, rfl, ha, by simp⟩
    | false =>
      rcases ih with h | ⟨k, x, h1, h2, h3⟩
      · exact .inl fun x hx => by rcases List.mem_cons.1 hx with rfl | hx; exact ha; exact h x hx
      · exact .inr ⟨k + 1, x, by simpa using h1, h2, fun y hy => by
          rw [List.take_succ_cons] at hy
          rcases List.mem_cons.1 hy with rfl | hy
          · exact ha
          · exact h3 y hy⟩
theorem hit_one {q : Int → Bool} {xs : List Int} {k k' : Nat} {x x' : Int} (h1 : xs[k]? = some x) (h2 : q x = true) (h3 : ∀ y ∈ xs.take k, q y = false) (h1' : xs[k']? = some x') (h2' : q x' = true) (h3' : ∀ y ∈ xs.take k', q y = false) : k = k' := by
  rcases Nat.lt_trichotomy k k' with h | h | h
  · have := h3' x (List.mem_of_getElem? (show (xs.take k')[k]? = some x by rw [List.getElem?_take, if_pos h, h1]))
    rw [h2] at this; cases this
  · exact h
  · have := h3 x' (List.mem_of_getElem? (show (xs.take k)[k']? = some x' by rw [List.getElem?_take, if_pos h, h1']))
    rw [h2'] at this; cases this
set_option maxHeartbeats 1000000 in
theorem indexf_any (A : Option Addr) (c : Nat) (xs : List Int) (B g : Nat) (q : Int → Bool) (w0 w : World) (hb : Below B w0 w) (hq : Asks B g q w0) (hC : IC w A xs.length xs) (hl : xs.length < 2 ^ 40) :
    Calls Try.prog 53 #[.slice A xs.length c, .func (.func 39) #[] #[.pointer (some ⟨g, 0, none⟩)]] w fun e w' =>
      ∃ r : Int, e = .returned (.int .i64 r) ∧ w' = w ∧ ((r = -1 ∧ ∀ x ∈ xs, q x = false) ∨ ∃ (k : Nat) (x : Int), r = k ∧ xs[k]? = some x ∧ q x = true ∧ ∀ y ∈ xs.take k, q y = false) := by
  have HQ := hid hq
  clear hq
  go_enter Try.func53, Try.ntmps53
  go_wp2
  go_loopw [5, 8] (fun _ i wr => ∃ k : Nat, k ≤ xs.length ∧ i = .int .i64 k ∧ wr = w ∧ Hid (∀ y ∈ xs.take k, q y = false)) (fun _ i _ => xs.length - (intOf i).toNat)
  case atStart => exact ⟨0, by omega, rfl, by first | rfl | trivial, (show ∀ _ ∈ _, _ from by simp)⟩
  case round =>
    obtain ⟨k, hk, rfl, rfl, HG⟩ := hrel
    by_cases hlt : k < xs.length
    · obtain ⟨ad, x, rfl, hcx, HX⟩ := IC.at_ hC hlt
      cases hqx : q x with
      | true =>
        go_wp2_with (go_at_call 39; refine (HQ.out _ x hb).mono ?_; rw [hqx]; rintro e w' ⟨rfl, rfl⟩)
        go_ret
        exact ⟨k, rfl, rfl, .inr ⟨k, x, rfl, HX.out.1, hqx, HG.out⟩⟩
      | false =>
        go_wp2_with (go_at_call 39; refine (HQ.out _ x hb).mono ?_; rw [hqx]; rintro e w' ⟨rfl, rfl⟩)
        go_roundw
        case rel =>
          refine ⟨k + 1, by omega, by go_num, by first | rfl | trivial, (show ∀ y ∈ _, _ from fun y hy => ?_)⟩
          rw [List.take_add_one, HX.out.1] at hy
          rcases List.mem_append.1 hy with h | h
          · exact HG.out y h
          · have : y = x := by simpa using h
            rw [this]; exact hqx
        case measure => simp [intOf]; omega
    · obtain rfl : k = xs.length := by omega
      go_wp2
      go_ret
      exact ⟨-1, rfl, rfl, .inl ⟨rfl, by simpa using HG.out⟩⟩
theorem own_cleared {W : World} {base g n cap : Nat} {e : TypeId} {xs : List Value} (h : W.ownsRow base e 1 (.slice (some ⟨g, 0, none⟩) n cap) n xs) {i : Nat} (hi : i ≤ n) (vs : List Value) (hv : i + vs.length ≤ n) :
    (W.setCells g i vs).ownsRow base e 1 (.slice (some ⟨g, 0, none⟩) i cap) i (xs.take i) ∧ W.grownBy (W.setCells g i vs) (some g) := by
  obtain ⟨hl, h2⟩ := h
  rcases h2 with ⟨he, _⟩ | ⟨g', cap', cur, he, hb, hh, hnc, hcm, hcs, ht⟩
  · cases he
  · injection he with ha _ hc
    injection ha with ha
    injection ha with ha
    subst ha; subst hc
    obtain ⟨cur', h3, h4, h5⟩ := setCells_row vs i W cur hh (by omega)
    obtain ⟨s1, s2, s3, s4⟩ := setCells_same g vs i W
    refine ⟨⟨by rw [List.length_take, hl]; omega, .inr ⟨g, cap, cur', rfl, hb, h3, by omega, hcm, by rw [h4]; exact hcs, ?_⟩⟩, ⟨s1, s2, s3, by omega, fun k hk hne => setCells_far vs i k (fun e => hne (by rw [e]))⟩⟩
    have hcl : i ≤ cur.toList.length := by rw [Array.length_toList]; omega
    rw [h5, ← ht, Nat.mul_one, Nat.mul_one, List.append_assoc, List.take_append_of_le_length (by rw [List.length_take]; omega), List.take_take, List.take_take, Nat.min_self, Nat.min_eq_left hi]
/-- What DeleteFunc's loop has in its row at j, i elements kept. -/
structure Sift (q : Int → Bool) (xs : List Int) (i j : Nat) (ys : List Int) : Prop where
  le : i ≤ j
  jle : j ≤ xs.length
  size : ys.length = xs.length
  low : ys.take i = (xs.take j).filter fun x => !q x
  len : i = ((xs.take j).filter fun x => !q x).length
  high : ys.drop j = xs.drop j
theorem Sift.at_ {q : Int → Bool} {xs ys : List Int} {i j : Nat} (h : Sift q xs i j ys) (hj : j < xs.length) : ∃ x, xs[j]? = some x ∧ rd ys j = x ∧ xs.take (j + 1) = xs.take j ++ [x] := by
  refine ⟨xs[j], List.getElem?_eq_getElem hj, rd_of ?_, by rw [List.take_add_one, List.getElem?_eq_getElem hj]; rfl⟩
  have := congrArg (fun l => l[0]?) h.high
  simp only [List.getElem?_drop, Nat.add_zero] at this
  rw [this, List.getElem?_eq_getElem hj]
theorem Sift.strike {q : Int → Bool} {xs ys : List Int} {i j : Nat} {x : Int} (h : Sift q xs i j ys) (hj : j < xs.length) (ht : xs.take (j + 1) = xs.take j ++ [x]) (hq : q x = true) : Sift q xs i (j + 1) ys :=
  ⟨by have := h.le; omega, by omega, h.size, by rw [ht, List.filter_append, h.low]; simp [hq], by rw [ht, List.filter_append]; simp [hq]; exact h.len, by
    have := congrArg (List.drop 1) h.high
    simpa [List.drop_drop] using this⟩
theorem Sift.keep {q : Int → Bool} {xs ys : List Int} {i j : Nat} {x : Int} (h : Sift q xs i j ys) (hj : j < xs.length) (ht : xs.take (j + 1) = xs.take j ++ [x]) (hq : q x = false) : Sift q xs (i + 1) (j + 1) (ys.set i x) := by
  have hi := h.le
  have hs := h.size
  refine ⟨by omega, by omega, by simp [hs], ?_, ?_, ?_⟩
  · rw [ht, List.filter_append, ← h.low, List.take_add_one, List.getElem?_set_self (by omega), List.take_set_of_le (Nat.le_refl _)]
    simp [hq]
  · rw [ht, List.filter_append, List.length_append, ← h.len]; simp [hq]
  · have := congrArg (List.drop 1) h.high
    rw [List.drop_set_of_lt (by omega)]
    simpa [List.drop_drop] using this
theorem Sift.all {q : Int → Bool} {xs ys : List Int} {i : Nat} (h : Sift q xs i xs.length ys) : ys.take i = (xs.filter fun x => !q x) ∧ i = (xs.filter fun x => !q x).length := by
  have h1 := h.low; have h2 := h.len
  rw [List.take_length] at h1 h2
  exact ⟨h1, h2⟩
theorem Sift.start {q : Int → Bool} {xs : List Int} {k : Nat} {x : Int} (hk : xs[k]? = some x) (hq : q x = true) (h : ∀ y ∈ xs.take k, q y = false) : Sift q xs k (k + 1) xs := by
  have hl : k < xs.length := (List.getElem?_eq_some_iff.1 hk).1
  have hf : (xs.take k).filter (fun x => !q x) = xs.take k := List.filter_eq_self.2 fun y hy => by simp [h y hy]
  have h0 : Sift q xs k k xs := ⟨Nat.le_refl _, by omega, rfl, hf.symm, by rw [hf, List.length_take]; omega, rfl⟩
  exact h0.strike hl (by rw [List.take_add_one, hk]; rfl) hq
theorem zeroI (w : World) : (zeroValue 3).run Try.prog w = .ok (.int .i64 0) w := by kernel_rfl
set_option maxHeartbeats 2000000 in
set_option maxRecDepth 100000 in
theorem deletef_any (base : Nat) (v : Value) (xs : List Int) (B g : Nat) (q : Int → Bool) (w0 w : World) (hb : Below B w0 w) (hBb : B ≤ base) (hq : Asks B g q w0) (ho : w.ownsRow base 3 1 v xs.length (nums .i64 xs)) (hl : xs.length < 2 ^ 40) :
    Calls Try.prog 37 #[v, .func (.func 39) #[] #[.pointer (some ⟨g, 0, none⟩)]] w fun e w' =>
      ∃ v', e = .returned v' ∧ w'.ownsRow base 3 1 v' (xs.filter fun x => !q x).length (nums .i64 (xs.filter fun x => !q x)) ∧ Below B w0 w' := by
  obtain ⟨A, c, rfl, hcc, hcm0, hC⟩ := own_IC ho
  have HX := hid (fun c => indexf_any A c xs B g q w0 w hb hq hC hl)
  have HQ := hid hq
  clear hq
  rcases ho.2 with ⟨he, h0⟩ | ⟨g1, cap, cur, he, hgb, -, hcap, hcm, -⟩
  · obtain rfl : xs = [] := List.eq_nil_of_length_eq_zero h0
    injection he with hA _ hc
    subst hA hc
    have HO := hid ho
    clear ho hC
    go_enter Try.func37, Try.ntmps37
    go_wp2_with (go_at_call 53; refine (HX.out _).mono ?_; rintro e w' ⟨r, rfl, rfl, (⟨rfl, -⟩ | ⟨k, x, -, hk, -⟩)⟩; rotate_left 1; exact nomatch hk)
    go_ret
    exact ⟨_, rfl, HO.out, hb⟩
  · injection he with hA _ hc
    subst hA hc
    have HO := hid ho
    clear ho hC
    go_enter Try.func37, Try.ntmps37
    have hcl : ∀ (ty : TypeId) (W : World) (ys : List Int) (i : Nat), i < xs.length → W.ownsRow base 3 1 (.slice (some ⟨g1, 0, none⟩) xs.length c) xs.length (nums .i64 ys) →
        (Builtin.clear_ #[27] ty #[.slice (some ⟨g1, i, none⟩) (xs.length - i) (c - i)]).run Try.prog W = .ok (.tuple #[]) (W.setCells g1 i (List.replicate (xs.length - i) (.int .i64 0))) := by
      intro ty W ys i hi h
      refine Lib.run_clear_slice W 27 3 ty _ Try.underlying27 zeroI rfl rfl g1 i _ _ (by omega) (fun j hj => ?_) fun j hj => ?_
      · have := (own_at h ((i + j : Nat) : Int) (by omega) (by omega)).1
        rw [Int.toNat_natCast] at this
        rw [this]; rfl
      · have := (own_at h ((i + j : Nat) : Int) (by omega) (by omega)).2
        rwa [Int.toNat_natCast] at this
    have HCL := hid hcl
    clear hcl
    rcases hit_or q xs with hall | ⟨k, x, hk, hqx, hbef⟩
    · have HX1 := hid (fun c => (HX.out c).mono (show ∀ e w', _ → (e = Ending.returned (.int .i64 (-1)) ∧ w' = w) by
        rintro e w' ⟨r, rfl, rfl, (⟨rfl, -⟩ | ⟨k, x, -, hk, hqx, -⟩)⟩
        · exact ⟨rfl, rfl⟩
        · have := hall x (List.mem_of_getElem? hk); rw [hqx] at this; cases this))
      clear HX
      go_wp2_with (go_at_call 53; refine (HX1.out _).mono ?_; rintro e w' ⟨rfl, rfl⟩)
      go_ret
      have hf : xs.filter (fun x => !q x) = xs := List.filter_eq_self.2 fun y hy => by simp [hall y hy]
      rw [hf]
      exact ⟨_, rfl, HO.out, hb⟩
    · have HX1 := hid (fun c => (HX.out c).mono (show ∀ e w', _ → (e = Ending.returned (.int .i64 k) ∧ w' = w) by
        rintro e w' ⟨r, rfl, rfl, (⟨-, hall⟩ | ⟨k', x', rfl, hk', hqx', hb'⟩)⟩
        · have := hall x (List.mem_of_getElem? hk); rw [hqx] at this; cases this
        · exact ⟨by rw [hit_one hk' hqx' hb' hk hqx hbef], rfl⟩))
      clear HX
      have hne : ((k : Int) == -1) = false := beq_eq_false_iff_ne.2 (by omega)
      have HS0 := hid (Sift.start hk hqx hbef)
      have hkl := HS0.out.jle
      clear hk hqx hbef
      go_wp2_with (go_at_call 53; refine (HX1.out _).mono ?_; rintro e w' ⟨rfl, rfl⟩)
      clear hne
      go_loopw [5, 6, 7] (fun i j _ wr => ∃ (I J : Nat) (ys : List Int), I < J ∧ J ≤ xs.length ∧ i = .int .i64 I ∧ j = .int .i64 J ∧ Hid (Sift q xs I J ys) ∧ Hid (wr.ownsRow base 3 1 (.slice (some ⟨g1, 0, none⟩) xs.length c) xs.length (nums .i64 ys)) ∧ Below B w0 wr) (fun _ j _ _ => xs.length - (intOf j).toNat)
      case atStart => exact ⟨k, k + 1, xs, by omega, HS0.out.jle, rfl, by go_num, HS0, HO, hb⟩
      case round =>
        clear HO hb HX1
        obtain ⟨I, J, ys, hIJ, hJ, rfl, rfl, HS, HO, hb⟩ := hrel
        have hgl : Hid (B ≤ wr.heap.size) := (show _ ≤ _ from by have := own_lt HO.out g1 rfl; omega)
        by_cases hlt : J < xs.length
        · obtain ⟨x, hx, hrx, htk⟩ := HS.out.at_ hlt
          obtain ⟨hcx, -⟩ := own_at HO.out (J : Int) (by omega) (by omega)
          rw [hrx, Int.toNat_natCast] at hcx
          obtain ⟨hci, hfi⟩ := own_at HO.out (I : Int) (by omega) (by omega)
          rw [Int.toNat_natCast] at hci hfi
          have HT := hid htk
          clear htk hrx hx
          cases hqx : q x with
          | true =>
            go_wp2_with (go_at_call 39; refine (HQ.out _ x hb).mono ?_; rw [hqx]; rintro e w' ⟨rfl, rfl⟩)
            go_roundw
            case rel => exact ⟨I, J + 1, ys, by omega, by omega, rfl, by go_num, HS.out.strike hlt HT.out hqx, HO, hb⟩
            case measure => simp [intOf]; omega
          | false =>
            go_wp2_with (go_at_call 39; refine (HQ.out _ x hb).mono ?_; rw [hqx]; rintro e w' ⟨rfl, rfl⟩)
            go_roundw
            case rel =>
              obtain ⟨h1, h2⟩ := own_store HO.out (I : Int) x
              rw [Int.toNat_natCast] at h1 h2
              exact ⟨I + 1, J + 1, ys.set I x, by omega, by omega, by go_num, by go_num, HS.out.keep hlt HT.out hqx, h1, hb.grown h2 hgl.out (fun r hr => by cases hr; omega)⟩
            case measure => simp [intOf]; omega
        · obtain rfl : J = xs.length := by omega
          have HS1 := hid HS.out.all
          have hcl := fun ty => HCL.out ty wr ys I hIJ HO.out
          go_wp2
          go_ret
          obtain ⟨hs1, hs2⟩ := HS1.out
          obtain ⟨h1, h2⟩ := own_cleared HO.out (show I ≤ xs.length by omega) (List.replicate (xs.length - I) (.int .i64 0)) (by simp; omega)
          refine ⟨_, rfl, ?_, hb.grown h2 hgl.out (fun r hr => by cases hr; omega)⟩
          rw [show (nums IntKind.i64 ys).take I = nums .i64 (ys.take I) by simp [nums, List.map_take], hs1] at h1
          rw [← hs2]
          exact h1

set_option maxHeartbeats 1000000 in
theorem kept_any (F : Value) (A : Option Addr) (c : Nat) (M : List Int) (D : Option Addr) (cd : Nat) (done : List Int) (w : World) (hF : F.oneCell' = true) (hM : IC w A M.length M) (hD : IC w D done.length done) (hl : done.length < 2 ^ 40) :
    Calls Try.prog 19 #[.agg #[F, .slice A M.length c], .slice D done.length cd] w fun e w' =>
      ∃ v, e = .returned v ∧ w'.ownsRow w.heap.size 3 1 v (keptL M done).length (nums .i64 (keptL M done)) ∧ Below w.heap.size w w' := by
  go_enter Try.func19, Try.ntmps19
  go_upto_region 1 with (fail)
  obtain ⟨w1, hw1⟩ : ∃ w1, w.alloc (.cells #[F, .slice A M.length c] 29) = w1 := ⟨_, rfl⟩
  have hBl : Blk w1 w.heap.size 29 #[F, .slice A M.length c] := by rw [← hw1]; exact Blk.new _ _ _
  have hb1 : Below w.heap.size w w1 := by rw [← hw1]; exact below_alloc (Below.refl _ _) _
  have hsz : w1.heap.size = w.heap.size + 1 := by rw [← hw1]; simp
  rw [hw1]
  clear hw1
  have HASK : Hid (Asks (w.heap.size + 1) w.heap.size (fun i => !keepB M i) w1) := (show Asks _ _ _ _ from fun W i hb =>
    strike_any w.heap.size F A c M i W (hBl.below hb (by omega)) (Kd.C_below hM (hb1.trans (hb.mono (by omega)) )))
  have hD1 : IC w1 D done.length done := Kd.C_below hD hb1
  have hnn : (fun i => !!keepB M i) = keepB M := by funext i; simp
  go_wp2_with (first
    | (go_at_call 38; refine (clonei_any D done.length cd done _ hD1 hl).mono ?_; rintro e w2 ⟨v2, rfl, ho2, hb2⟩; replace hb2 := hid hb2; have HO := hid ho2; clear ho2)
    | (go_at_call 37; refine (deletef_any w1.heap.size _ done (w.heap.size + 1) w.heap.size (fun i => !keepB M i) w1 _ (by rw [← hsz]; exact hb2.out) (by omega) HASK.out HO.out hl).mono ?_; rintro e w3 ⟨v3, rfl, ho3, hb3⟩))
  go_ret
  rw [hnn] at ho3
  exact ⟨v3, rfl, own_less ho3 (by omega), hb1.trans (hb3.mono (by omega))⟩
end Go.Proofs.Ytheclfjbedajfaa
