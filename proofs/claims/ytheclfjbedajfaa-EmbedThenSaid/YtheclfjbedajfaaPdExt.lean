-- Written by this session's program xprint.py: it drives the kit's print with contracts of this session's own.
import Derived.Test.YtheclfjbedajfaaPdx0
import Derived.Test.YtheclfjbedajfaaLi
import Derived.Test.YtheclfjbedajfaaGe
namespace Go.Proofs.Ytheclfjbedajfaa.Pd
open Go.RowKit Go.Lib Go.Proofs.YtheclfjbedajfaaW.PrintWords
set_option linter.unusedVariables false
set_option linter.unusedSimpArgs false

/-! ### embed_Of: function 29 -/
def embed_Of.f (a0_0 : Int) (l0_1 : List Int) (a1_0 : Int) (l1_1 : List Int) (l2 : List Int) (l3 : List Int) : Option (List Int × List Int × Int) := if (l0_1.length ≤ 12 ∨ l3.length ≤ 12) ∧ l0_1.length ≤ 1000 ∧ l1_1.length ≤ 1000 ∧ l2.length < 1099511627776 ∧ l3.length < 1099511627776 ∧ okL 18446744073709551616 l0_1 = true ∧ okL 18446744073709551616 l1_1 = true ∧ okI l2 = true ∧ okI l3 = true ∧ 0 ≤ a1_0 ∧ a1_0 ≤ 60 then some (ofF a0_0 a1_0 l0_1 l1_1 l2 l3) else none
set_option maxRecDepth 100000 in
theorem embed_Of.calls (a0_0 : Int) (A0_1 : Option Addr) (c0_1 : Nat) (l0_1 : List Int) (a1_0 : Int) (A1_1 : Option Addr) (c1_1 : Nat) (l1_1 : List Int) (A2 : Option Addr) (c2 : Nat) (l2 : List Int) (A3 : Option Addr) (c3 : Nat) (l3 : List Int) (r1 : List Int) (r2 : List Int) (r3 : Int) (w : World) (hr0_1 : Kd.C (Kd.int .u64) w A0_1 l0_1.length l0_1) (hc0_1 : l0_1.length ≤ c0_1) (hr1_1 : Kd.C (Kd.int .u64) w A1_1 l1_1.length l1_1) (hc1_1 : l1_1.length ≤ c1_1) (hr2 : Kd.C (Kd.int .i64) w A2 l2.length l2) (hc2 : l2.length ≤ c2) (hr3 : Kd.C (Kd.int .i64) w A3 l3.length l3) (hc3 : l3.length ≤ c3) (h : embed_Of.f a0_0 l0_1 a1_0 l1_1 l2 l3 = some (r1, r2, r3)) :
    Calls Try.prog 29 #[.agg #[.int .i64 a0_0, .slice A0_1 l0_1.length c0_1], .agg #[.int .i64 a1_0, .slice A1_1 l1_1.length c1_1], .slice A2 l2.length c2, .slice A3 l3.length c3] w fun e w' => ∃ v0_ v1_ : Value, e = .returned (.tuple #[.agg #[v0_, v1_], .int .i64 r3]) ∧ Kd.R (Kd.int .i64) 3 w' w.heap.size (fun k_ => some k_ ≠ (v1_ : Value).ownBlock) v0_ r1 ∧ Kd.R (Kd.int .i64) 3 w' w.heap.size (fun k_ => some k_ ≠ (v0_ : Value).ownBlock) v1_ r2 ∧ Below w.heap.size w w' := by
  obtain ⟨⟨h1, h1b, h2, h3, h4, h5, h6, h7, h8, h0, h9⟩, hr⟩ := some_if h
  unfold ofF at hr
  split at hr
  · rename_i hc
    obtain ⟨hV, hd2, hd3⟩ := hc
    subst hV
    obtain ⟨q1, hq⟩ := Prod.mk.inj hr
    obtain ⟨q2, q3⟩ := Prod.mk.inj hq
    rw [q1, q2, q3]
    obtain ⟨e1, e2, e3, e4⟩ := diff_nl hd2
    obtain ⟨d1, d2, d3, d4⟩ := diff_nl hd3
    obtain ⟨U, rfl⟩ := Int.eq_ofNat_of_zero_le h0
    have := of_ok U c0_1 c1_1 c2 c3 A0_1 A1_1 A2 A3 (nl l0_1) (nl l1_1) (nl l2) (nl l3) w (by rw [nl_length]; exact blc_of (by decide) hr0_1 h5) (by rw [nl_length]; exact blc_of (by decide) hr1_1 h6) (by rw [e1, nl_length]; exact hr2) (by rw [d1, nl_length]; exact hr3) (fun q hq => by have := e2 q hq; omega) e3 (by omega) (by rw [nl_length]; omega)
      (fun i hi => by have := d2 i hi; rw [nl_length]; omega) d3 (by rw [nl_length]; omega) (by rw [nl_length, nl_length]; omega) (by rw [nl_length]; omega) (by rw [nl_length]; omega)
    rw [nl_length, nl_length, nl_length, nl_length] at this
    refine this.mono ?_
    rintro e w' ⟨v1, v2, rfl, ho1, ho2, hb, hnd⟩
    exact ⟨v1, v2, rfl, (R_pair (own_dn e1 ho1) ho2 hnd).1, (R_pair (own_dn e1 ho1) ho2 hnd).2, hb⟩
  · rename_i hc
    obtain ⟨q1, hq⟩ := Prod.mk.inj hr
    obtain ⟨q2, q3⟩ := Prod.mk.inj hq
    rw [q1, q2, q3]
    refine (of_bad a0_0 a1_0 _ _ c0_1 c1_1 c2 c3 A0_1 A1_1 A2 A3 l2 l3 w hr2 hr3 h3 h4 (okI_iff.1 h7) (okI_iff.1 h8) _ _ rfl rfl (fun hv hb => by cases hq : diffB l3 l0_1.length; rfl; exact absurd ⟨hv, hb, hq⟩ hc)).mono ?_
    rintro e w' ⟨rfl, hb⟩
    exact ⟨_, _, rfl, nil_pair.1, nil_pair.2, hb⟩

/-! ### embed_Best: function 33 -/
def embed_Best.f (a0_0 : Int) (l0_1 : List Int) (a1_0 : Int) (l1_1 : List Int) (l2 : List Int) : Option (List Int × List Int × Int) := if l0_1.length ≤ 12 ∧ l1_1.length ≤ 1000 ∧ l2.length < 1099511627776 ∧ okL 18446744073709551616 l0_1 = true ∧ okL 18446744073709551616 l1_1 = true ∧ okI l2 = true ∧ 0 ≤ a0_0 ∧ 0 ≤ a1_0 then some (bestF a0_0 a1_0 l0_1 l1_1 l2) else none
set_option maxRecDepth 100000 in
theorem embed_Best.calls (a0_0 : Int) (A0_1 : Option Addr) (c0_1 : Nat) (l0_1 : List Int) (a1_0 : Int) (A1_1 : Option Addr) (c1_1 : Nat) (l1_1 : List Int) (A2 : Option Addr) (c2 : Nat) (l2 : List Int) (r1 : List Int) (r2 : List Int) (r3 : Int) (w : World) (hr0_1 : Kd.C (Kd.int .u64) w A0_1 l0_1.length l0_1) (hc0_1 : l0_1.length ≤ c0_1) (hr1_1 : Kd.C (Kd.int .u64) w A1_1 l1_1.length l1_1) (hc1_1 : l1_1.length ≤ c1_1) (hr2 : Kd.C (Kd.int .i64) w A2 l2.length l2) (hc2 : l2.length ≤ c2) (h : embed_Best.f a0_0 l0_1 a1_0 l1_1 l2 = some (r1, r2, r3)) :
    Calls Try.prog 33 #[.agg #[.int .i64 a0_0, .slice A0_1 l0_1.length c0_1], .agg #[.int .i64 a1_0, .slice A1_1 l1_1.length c1_1], .slice A2 l2.length c2] w fun e w' => ∃ v0_ v1_ : Value, e = .returned (.tuple #[.agg #[v0_, v1_], .int .i64 r3]) ∧ Kd.R (Kd.int .i64) 3 w' w.heap.size (fun k_ => some k_ ≠ (v1_ : Value).ownBlock) v0_ r1 ∧ Kd.R (Kd.int .i64) 3 w' w.heap.size (fun k_ => some k_ ≠ (v0_ : Value).ownBlock) v1_ r2 ∧ Below w.heap.size w w' := by
  obtain ⟨⟨h1, h2, h3, h4, h5, h6, h7, h8⟩, hr⟩ := some_if h
  obtain ⟨V, rfl⟩ := Int.eq_ofNat_of_zero_le h7
  obtain ⟨U, rfl⟩ := Int.eq_ofNat_of_zero_le h8
  unfold bestF at hr
  split at hr
  · rename_i hc
    obtain ⟨q1, hq⟩ := Prod.mk.inj hr
    obtain ⟨q2, q3⟩ := Prod.mk.inj hq
    rw [q1, q2, q3]
    refine (best_big V U _ _ _ c0_1 c1_1 c2 A0_1 A1_1 A2 w hc).mono ?_
    rintro e w' ⟨rfl, hb⟩
    exact ⟨_, _, rfl, nil_pair.1, nil_pair.2, hb⟩
  · rename_i hc
    split at hr
    · rename_i hd
      obtain ⟨q1, hq⟩ := Prod.mk.inj hr
      obtain ⟨q2, q3⟩ := Prod.mk.inj hq
      rw [q1, q2, q3]
      refine (best_bad V U _ _ c0_1 c1_1 c2 A0_1 A1_1 A2 l2 w (by omega) (by omega) hr2 h3 (okI_iff.1 h6) false hd (fun e => nomatch e)).mono ?_
      rintro e w' ⟨rfl, hb⟩
      exact ⟨_, _, rfl, nil_pair.1, nil_pair.2, hb⟩
    · rename_i hd
      have hd1 : diffB l2 l0_1.length = true := by simpa using hd
      split at hr
      · rename_i hv
        obtain ⟨q1, hq⟩ := Prod.mk.inj hr
        obtain ⟨q2, q3⟩ := Prod.mk.inj hq
        rw [q1, q2, q3]
        refine (best_bad V U _ _ c0_1 c1_1 c2 A0_1 A1_1 A2 l2 w (by omega) (by omega) hr2 h3 (okI_iff.1 h6) true hd1 (fun _ => hv)).mono ?_
        rintro e w' ⟨rfl, hb⟩
        exact ⟨_, _, rfl, nil_pair.1, nil_pair.2, hb⟩
      · rename_i hv
        obtain ⟨q1, hq⟩ := Prod.mk.inj hr
        obtain ⟨q2, q3⟩ := Prod.mk.inj hq
        rw [q1, q2, q3]
        obtain ⟨e1, e2, e3, e4⟩ := diff_nl hd1
        have := best_ok V U c0_1 c1_1 c2 A0_1 A1_1 A2 (nl l0_1) (nl l1_1) (nl l2) w (by omega) (by omega) (by omega) (by rw [nl_length]; exact blc_of (by decide) hr0_1 h4) (by rw [nl_length]; exact blc_of (by decide) hr1_1 h5) (by rw [e1, nl_length]; exact hr2) (fun i hi => by have := e2 i hi; rw [nl_length]; omega) e3 (by rw [nl_length]; omega) (by rw [nl_length, nl_length]; omega) (by rw [nl_length]; omega) (by rw [nl_length]; omega)
        rw [nl_length, nl_length, nl_length] at this
        refine this.mono ?_
        rintro e w' ⟨v1, v2, rfl, ho1, ho2, hb, hnd⟩
        exact ⟨v1, v2, rfl, (R_pair ho1 ho2 hnd).1, (R_pair ho1 ho2 hnd).2, hb⟩

/-! ### embed_different: function 34 -/
def embed_different.f (l0 : List Int) (a1 : Int) : Option (Bool) := if l0.length < 1099511627776 ∧ okI l0 = true then some (diffB l0 a1) else none
set_option maxRecDepth 100000 in
theorem embed_different.calls (A0 : Option Addr) (c0 : Nat) (l0 : List Int) (a1 : Int) (r : Bool) (w : World) (hr0 : Kd.C (Kd.int .i64) w A0 l0.length l0) (hc0 : l0.length ≤ c0) (h : embed_different.f l0 a1 = some r) :
    Calls Try.prog 34 #[.slice A0 l0.length c0, .int .i64 a1] w fun e w' => e = .returned (.bool r) ∧ Below w.heap.size w w' := by
  obtain ⟨⟨h1, h2⟩, rfl⟩ := some_if h
  exact different_any A0 c0 l0 a1 w hr0 h1 (okI_iff.1 h2)

/-! ### embed_moved: function 35 -/
def embed_moved.f (a0 : Int) (l1 : List Int) : Option (Int) := if 0 ≤ a0 ∧ a0 < 18446744073709551616 ∧ l1.length ≤ 60 ∧ okL 60 l1 = true then some ((movedN a0.toNat (nl l1) : Nat) : Int) else none
set_option maxRecDepth 100000 in
theorem embed_moved.calls (a0 : Int) (A1 : Option Addr) (c1 : Nat) (l1 : List Int) (r : Int) (w : World) (hr1 : Kd.C (Kd.int .i64) w A1 l1.length l1) (hc1 : l1.length ≤ c1) (h : embed_moved.f a0 l1 = some r) :
    Calls Try.prog 35 #[.int .u64 a0, .slice A1 l1.length c1] w fun e w' => e = .returned (.int .u64 r) ∧ Drawn0 w w' := by
  obtain ⟨⟨h1, h2, h3, h4⟩, rfl⟩ := some_if h
  obtain ⟨s, rfl⟩ := Int.eq_ofNat_of_zero_le h1
  have e1 := il_nl (fun b hb => ((okL_iff.1 h4) b hb).1)
  have := moved_any s A1 c1 (nl l1) w (by omega) (by rw [e1, nl_length]; exact hr1) (by rw [nl_length]; exact h3) (okL_nl h4)
  rw [nl_length] at this
  refine this.mono ?_
  rintro e w' ⟨rfl, rfl⟩
  exact ⟨rfl, Drawn0.refl _⟩

/-! ### embed_Kept: function 19 -/
def embed_Kept.f (l0_0 : List Int) (l0_1 : List Int) (l1 : List Int) : Option (List Int) := if l0_1.length < 1099511627776 ∧ l1.length < 1099511627776 then some (keptL l0_1 l1) else none
set_option maxRecDepth 100000 in
theorem embed_Kept.calls (A0_0 : Option Addr) (c0_0 : Nat) (l0_0 : List Int) (A0_1 : Option Addr) (c0_1 : Nat) (l0_1 : List Int) (A1 : Option Addr) (c1 : Nat) (l1 : List Int) (r : List Int) (w : World) (hr0_0 : Kd.C (Kd.int .i64) w A0_0 l0_0.length l0_0) (hc0_0 : l0_0.length ≤ c0_0) (hr0_1 : Kd.C (Kd.int .i64) w A0_1 l0_1.length l0_1) (hc0_1 : l0_1.length ≤ c0_1) (hr1 : Kd.C (Kd.int .i64) w A1 l1.length l1) (hc1 : l1.length ≤ c1) (h : embed_Kept.f l0_0 l0_1 l1 = some r) :
    Calls Try.prog 19 #[.agg #[.slice A0_0 l0_0.length c0_0, .slice A0_1 l0_1.length c0_1], .slice A1 l1.length c1] w fun e w' => ∃ v0_ : Value, e = .returned (v0_) ∧ Kd.R (Kd.int .i64) 3 w' w.heap.size (fun _ => True) v0_ r ∧ Below w.heap.size w w' := by
  obtain ⟨⟨h1, h2⟩, rfl⟩ := some_if h
  refine (kept_any (.slice A0_0 l0_0.length c0_0) A0_1 c0_1 l0_1 A1 c1 l1 w rfl hr0_1 hr1 h2).mono ?_
  rintro e w' ⟨v, he, ho, hb⟩
  exact ⟨v, he, R_own ho, hb⟩

/-! ### plexusref06_Shuffled: function 23 -/
def plexusref06_Shuffled.f (a0 : Int) (l1 : List Int) : Option (List Int) := if l1.length < 2 ^ 63 ∧ okL 256 l1 = true ∧ 0 ≤ a0 ∧ a0 < 1048576 then some (il (shL (nl l1) a0.toNat)) else none
set_option maxRecDepth 100000 in
theorem plexusref06_Shuffled.calls (a0 : Int) (A1 : Option Addr) (c1 : Nat) (l1 : List Int) (r : List Int) (w : World) (hr1 : Kd.C (Kd.int .u8) w A1 l1.length l1) (hc1 : l1.length ≤ c1) (h : plexusref06_Shuffled.f a0 l1 = some r) :
    Calls Try.prog 23 #[.int .i64 a0, .slice A1 l1.length c1] w fun e w' => ∃ v0_ : Value, e = .returned (v0_) ∧ Kd.R (Kd.int .i64) 3 w' w.heap.size (fun _ => True) v0_ r ∧ Below w.heap.size w w' := by
  obtain ⟨⟨h1, h2, h3, h4⟩, rfl⟩ := some_if h
  obtain ⟨n, rfl⟩ := Int.eq_ofNat_of_zero_le h3
  refine (shuffled_any A1 _ c1 n (nl l1) w (nlc_of hr1 h2) (by omega) (by omega)).mono ?_
  rintro e w' ⟨v, he, ho, hb⟩
  exact ⟨v, he, R_own ho, hb⟩

/-! ### plexusref06_Image: function 25 -/
def plexusref06_Image.f (a0_0 : Int) (l0_1 : List Int) (l1 : List Int) : Option (Int × List Int) := if l0_1.length < 1099511627776 ∧ okL 18446744073709551616 l0_1 = true ∧ diffB l1 l1.length = true ∧ a0_0 = l1.length ∧ l1.length ≤ 60 then some (a0_0, il (imL (nl l0_1) (nl l1))) else none
set_option maxRecDepth 100000 in
theorem plexusref06_Image.calls (a0_0 : Int) (A0_1 : Option Addr) (c0_1 : Nat) (l0_1 : List Int) (A1 : Option Addr) (c1 : Nat) (l1 : List Int) (r1 : Int) (r2 : List Int) (w : World) (hr0_1 : Kd.C (Kd.int .u64) w A0_1 l0_1.length l0_1) (hc0_1 : l0_1.length ≤ c0_1) (hr1 : Kd.C (Kd.int .i64) w A1 l1.length l1) (hc1 : l1.length ≤ c1) (h : plexusref06_Image.f a0_0 l0_1 l1 = some (r1, r2)) :
    Calls Try.prog 25 #[.agg #[.int .i64 a0_0, .slice A0_1 l0_1.length c0_1], .slice A1 l1.length c1] w fun e w' => ∃ v1_ : Value, e = .returned (.agg #[.int .i64 r1, v1_]) ∧ Kd.R (Kd.int .u64) 60 w' w.heap.size (fun _ => True) v1_ r2 ∧ Below w.heap.size w w' := by
  obtain ⟨⟨h1, h2, h3, h4, h5⟩, hr⟩ := some_if h
  obtain ⟨rfl, rfl⟩ := Prod.mk.inj hr
  obtain ⟨e1, e2, e3, e4⟩ := diff_nl h3
  subst h4
  have := image_any A0_1 A1 c0_1 c1 (nl l0_1) (nl l1) w (by rw [nl_length]; exact blc_of (by decide) hr0_1 h2) (by rw [nl_length]; omega) (by rw [e1, nl_length]; exact hr1) (by rw [nl_length]; exact h5) (fun q hq => by have := e2 q hq; rw [nl_length]; omega) e3
  rw [nl_length, nl_length] at this
  refine this.mono ?_
  rintro e w' ⟨v, he, ho, hb⟩
  exact ⟨v, he, R_own ho, hb⟩

/-! ### plexusref06_With: function 26 -/
def plexusref06_With.f (l0 : List Int) (a1 : Int) : Option (List Int) := if l0.length < 1099511627776 ∧ okL 16384 l0 = true ∧ 0 ≤ a1 ∧ a1 < 16384 then some (il (withL (nl l0) a1.toNat)) else none
set_option maxRecDepth 100000 in
theorem plexusref06_With.calls (A0 : Option Addr) (c0 : Nat) (l0 : List Int) (a1 : Int) (r : List Int) (w : World) (hr0 : Kd.C (Kd.int .u64) w A0 l0.length l0) (hc0 : l0.length ≤ c0) (h : plexusref06_With.f l0 a1 = some r) :
    Calls Try.prog 26 #[.slice A0 l0.length c0, .int .u64 a1] w fun e w' => ∃ v0_ : Value, e = .returned (v0_) ∧ Kd.R (Kd.int .u64) 60 w' w.heap.size (fun _ => True) v0_ r ∧ Below w.heap.size w w' := by
  obtain ⟨⟨h1, h2, h3, h4⟩, rfl⟩ := some_if h
  obtain ⟨b, rfl⟩ := Int.eq_ofNat_of_zero_le h3
  refine (with_any A0 _ c0 (nl l0) b (by omega) w (blc_of (by decide) hr0 h2) h1 hc0).mono ?_
  rintro e w' ⟨v, he, ho, hb⟩
  exact ⟨v, he, R_own (by simpa [il_length, withL_length, nl_length] using ho), hb⟩

/-! ### plexusref06_Limited: function 27 -/
def plexusref06_Limited.f (l0_0 : List Int) (a1 : Int) : Option (Int × List Int) := if l0_0.length < 2 ^ 63 ∧ okL 256 l0_0 = true ∧ 1 ≤ a1 ∧ a1 ≤ 7 then some ((limV (nl l0_0) a1.toNat : Nat), il (limB (nl l0_0) a1.toNat)) else none
set_option maxRecDepth 100000 in
theorem plexusref06_Limited.calls (A0_0 : Option Addr) (c0_0 : Nat) (l0_0 : List Int) (a1 : Int) (r1 : Int) (r2 : List Int) (w : World) (hr0_0 : Kd.C (Kd.int .u8) w A0_0 l0_0.length l0_0) (hc0_0 : l0_0.length ≤ c0_0) (h : plexusref06_Limited.f l0_0 a1 = some (r1, r2)) :
    Calls Try.prog 27 #[.agg #[.slice A0_0 l0_0.length c0_0], .int .i64 a1] w fun e w' => ∃ v1_ : Value, e = .returned (.agg #[.int .i64 r1, v1_]) ∧ Kd.R (Kd.int .u64) 60 w' w.heap.size (fun _ => True) v1_ r2 ∧ Below w.heap.size w w' := by
  obtain ⟨⟨h1, h2, h3, h4⟩, hr⟩ := some_if h
  obtain ⟨rfl, rfl⟩ := Prod.mk.inj hr
  obtain ⟨m, rfl⟩ := Int.eq_ofNat_of_zero_le (show 0 ≤ a1 by omega)
  refine (limited_any A0_0 _ c0_0 (nl l0_0) m (by omega) (by omega) w (nlc_of hr0_0 h2) (by omega)).mono ?_
  rintro e w' ⟨v, he, ho, hb⟩
  exact ⟨v, he, R_own ho, hb⟩

end Go.Proofs.Ytheclfjbedajfaa.Pd
