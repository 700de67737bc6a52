/- What disjunct.FromWords makes of words: the tests of each column, in plain Lean. -/
/- disjunct.FromWords, walked: words of different lengths are refused; words of one length give the tests of their columns, sorted (at most 12 words, columns and tests). -/
/- plexuslaw12.fromWords (FromWords with its answer in one value), walked over what FromWords gives. -/
/- plexuslaw12.fromWords at the two inputs of examples(). -/
import Derived.Test.YtmfmlfaglemgfaaDoorSv
import Derived.Maps.RangeWalk
import Derived.Test.YtmfmlfaglemgfaaDoorGl
import Derived.Test.YtmfmlfaglemgfaaDoorPdx3
import Derived.Lib.BufferWrite
namespace Go.Proofs.YtmfmlfaglemgfaaDoor
set_option linter.unusedSimpArgs false
set_option linter.unusedVariables false
open Go.RowKit Go.Lib Go.Proofs.YtmfmlfaglemgfaaDoorW.PrintWords
theorem withL_permF (bs : List Nat) (b : Nat) : (withL bs b).Perm (b :: bs) := by
  unfold withL
  rw [List.append_assoc]
  have := List.perm_middle (a := b) (l₁ := bs.take (wat bs b)) (l₂ := bs.drop (wat bs b))
  rwa [List.take_append_drop] at this
theorem sortedL_permF (l : List Nat) : (sortedL l).Perm l := by
  have : ∀ (l acc : List Nat), (l.foldl withL acc).Perm (l ++ acc) := by
    intro l
    induction l with
    | nil => intro acc; exact List.Perm.refl _
    | cons x r ih =>
      intro acc
      refine (ih _).trans ?_
      refine (List.Perm.append_left r (withL_permF acc x)).trans ?_
      exact List.perm_middle
  simpa [sortedL] using this l []
theorem sortedL_of_perm {a b : List Nat} (h : a.Perm b) : sortedL a = sortedL b :=
  List.Perm.eq_of_pairwise (le := (· ≤ ·)) (fun _ _ _ _ h1 h2 => Nat.le_antisymm h1 h2) (sortedL_sorted a) (sortedL_sorted b) (((sortedL_permF a).trans h).trans (sortedL_permF b).symm)
/-- A column. -/
def colAt (l : List (List Int)) (k : Nat) : List Int := l.map fun r => rd r k
/-- The items among the first j that have a symbol. -/
def maskL (col : List Int) (x : Int) : Nat → Nat
  | 0 => 0
  | j + 1 => if rd col j = x then maskL col x j ||| 2 ^ j else maskL col x j
theorem maskL_lt (col : List Int) (x : Int) : ∀ j, maskL col x j < 2 ^ j
  | 0 => by simp [maskL]
  | j + 1 => by
    have h := maskL_lt col x j
    have h2 : 2 ^ j < 2 ^ (j + 1) := Nat.pow_lt_pow_right (by decide) (by omega)
    unfold maskL
    split
    · exact Nat.or_lt_two_pow (by omega) h2
    · omega
/-- The symbols, each once. -/
def syms : List Int → List Int
  | [] => []
  | x :: r => if x ∈ r then syms r else x :: syms r
theorem mem_syms {x : Int} : ∀ {l : List Int}, x ∈ syms l ↔ x ∈ l
  | [] => by simp [syms]
  | y :: r => by
    unfold syms
    split
    · rename_i h
      rw [mem_syms, List.mem_cons]
      constructor
      · exact Or.inr
      · rintro (rfl | h')
        · exact h
        · exact h'
    · rw [List.mem_cons, mem_syms, List.mem_cons]
theorem nodup_syms : ∀ l : List Int, (syms l).Nodup
  | [] => by simp [syms]
  | y :: r => by
    unfold syms
    split
    · exact nodup_syms r
    · rename_i h
      exact List.nodup_cons.2 ⟨fun h' => h (mem_syms.1 h'), nodup_syms r⟩
def testsCol (l : List (List Int)) (k : Nat) : List Nat := (syms (colAt l k)).map fun x => maskL (colAt l k) x l.length
/-- The tests of the first columns, in some order. -/
def testsUpto (l : List (List Int)) : Nat → List Nat
  | 0 => []
  | k + 1 => testsUpto l k ++ testsCol l k
theorem perm_keys {l : List (List Int)} {k : Nat} {ts : List Nat} {keys : List Int} (h : ts.Perm (testsUpto l k)) (hn : keys.Nodup) (hm : ∀ x, x ∈ keys ↔ x ∈ colAt l k) :
    (ts ++ keys.map fun x => maskL (colAt l k) x l.length).Perm (testsUpto l (k + 1)) :=
  h.append (List.Perm.map _ ((List.perm_ext_iff_of_nodup hn (nodup_syms _)).2 fun x => (hm x).trans mem_syms.symm))
theorem testsUpto_le {l : List (List Int)} : ∀ {k m : Nat}, k ≤ m → (testsUpto l k).length ≤ (testsUpto l m).length
  | k, 0, h => by obtain rfl : k = 0 := by omega
                  exact Nat.le_refl _
  | k, m + 1, h => by
    rcases Nat.lt_or_ge m k with h1 | h1
    · obtain rfl : k = m + 1 := by omega
      exact Nat.le_refl _
    · have := testsUpto_le (l := l) h1
      simp only [testsUpto, List.length_append]
      omega

-- the map of one column
open Go.Maps in
theorem atKey_fill {D : DataW Unit} {col : List Int} {j : Nat} {s : Int} (hm : IsMap D) (hD : ∀ x : Int, D.atKey (.int .i64 x) (.lit (.int .u64 0)) = .lit (.int .u64 (maskL col x j))) (hs : rd col j = s) (m : Int) (he : m = ((maskL col s j ||| 2 ^ j : Nat) : Int)) :
    ∀ x : Int, (D.put (.int .i64 s) (.lit (.int .u64 m))).atKey (.int .i64 x) (.lit (.int .u64 0)) = .lit (.int .u64 (maskL col x (j + 1))) := by
  intro x
  by_cases hx : x = s
  · subst hx
    rw [atKey_put_same hm (show WideAt.IsKeyLit (.int .i64 x) from trivial), he]
    simp [maskL, hs]
  · rw [atKey_put_other (fun e => hx (by cases e; rfl)), hD x]
    simp [maskL, hs, Ne.symm hx]
open Go.Maps in
theorem has_fill {D : DataW Unit} {col : List Int} {j : Nat} {s : Int} (hm : IsMap D) (hj : j < col.length) (hD : ∀ x : Int, has D (.int .i64 x) = decide (x ∈ col.take j)) (hs : rd col j = s) (z : DataW Unit) :
    ∀ x : Int, has (D.put (.int .i64 s) z) (.int .i64 x) = decide (x ∈ col.take (j + 1)) := by
  intro x
  have e : col.take (j + 1) = col.take j ++ [s] := by
    rw [List.take_add_one]
    have : col[j]? = some s := by
      rw [← hs]; unfold rd
      rw [List.getD_eq_getElem?_getD, Int.toNat_natCast, List.getElem?_eq_getElem hj]; rfl
    rw [this]; rfl
  by_cases hx : x = s
  · subst hx
    rw [has_put_same hm (show WideAt.IsKeyLit (.int .i64 x) from trivial), e]
    simp
  · rw [has_put_other (fun e => hx (by cases e; rfl)), hD x, e]
    simp [hx]
end Go.Proofs.YtmfmlfaglemgfaaDoor


namespace Go.Proofs.YtmfmlfaglemgfaaDoor
set_option linter.unusedSimpArgs false
set_option linter.unusedVariables false
open Go.RowKit Go.Lib Go.Shelf Go.Proofs.YtmfmlfaglemgfaaDoorW.PrintWords
attribute [local go_sem] Oper.semAt_some

abbrev IC (w : World) (A : Option Addr) (n : Nat) (xs : List Int) : Prop := (Kd.int .i64).C w A n xs
theorem IC.len {w : World} {A : Option Addr} {n : Nat} {xs : List Int} (h : IC w A n xs) : xs.length = n := h.1
theorem IC.at_ {w : World} {A : Option Addr} {n : Nat} {xs : List Int} (h : IC w A n xs) {k : Nat} (hk : k < n) :
    ∃ ad x, A = some ad ∧ w.cell? (ad.add k) = some (.int .i64 x) ∧ Hid (xs[k]? = some x ∧ rd xs k = x) := by
  obtain ⟨ad, e, hc⟩ := Kd.at_int h k (by omega) (by omega)
  have hl : k < xs.length := by rw [h.len]; omega
  refine ⟨ad, rd xs k, e, by simpa using hc, ?_⟩
  have hx : xs[k]? = some (rd xs k) := by
    unfold rd
    rw [List.getD_eq_getElem?_getD, Int.toNat_natCast, List.getElem?_eq_getElem hl]; rfl
  exact ⟨hx, rfl⟩
abbrev RC (w : World) (A : Option Addr) (n : Nat) (xss : List (List Int)) : Prop := (Kd.slice 3 (Kd.int .i64)).C w A n xss
theorem RC.len {w : World} {A : Option Addr} {n : Nat} {xs : List (List Int)} (h : RC w A n xs) : xs.length = n := h.1
theorem RC.at_ {w : World} {A : Option Addr} {n : Nat} {xss : List (List Int)} (h : RC w A n xss) {k : Nat} (hk : k < n) :
    ∃ ad A' c' xs, A = some ad ∧ w.cell? (ad.add k) = some (.slice A' xs.length c') ∧ IC w A' xs.length xs ∧ xs.length ≤ c' ∧ Hid (xss[k]? = some xs) := by
  obtain ⟨ad, c, e, hl, hK, hc⟩ := Kd.C_get h [] k (by omega) (by omega)
  obtain ⟨A', c', rfl, hle, hC⟩ := hK
  have hlt : k < xss.length := by rw [h.len]; omega
  have hx : xss[k]? = some (xss.getD ((k : Int)).toNat []) := by
    rw [List.getD_eq_getElem?_getD, Int.toNat_natCast, List.getElem?_eq_getElem hlt]; rfl
  refine ⟨ad, A', c', _, e, ?_, hC, hle, hx⟩
  have := hc 0 _ rfl
  simpa [Kd.slice] using this

set_option maxHeartbeats 1000000 in
set_option maxRecDepth 100000 in
/-- A word of another length than the first one: refused. -/
theorem fw_bad (A : Option Addr) (c : Nat) (l : List (List Int)) (d e : Int) (w : World) (hC : RC w A l.length l) (hn : l.length < 2 ^ 40) (hm : ∀ r ∈ l, r.length < 2 ^ 40) (hbad : ¬ ∀ k < l.length, (l[k]?.getD []).length = (l[0]?.getD []).length) :
    Calls Tryd.prog 30 #[.slice A l.length c, .int .i64 d, .int .i64 e] w fun e' w' => e' = .returned (.tuple #[.agg #[.int .i64 0, .slice none 0 0, .int .i64 0, .int .i64 0], .int .i64 1]) ∧ Below w.heap.size w w' := by
  have hu := Tryd.underlying30
  have HM := hid hm
  have HBAD := hid hbad
  clear hm hbad
  have h0 : 0 < l.length := by
    rcases Nat.eq_zero_or_pos l.length with h | h
    · exact absurd (fun k hk => by omega) HBAD.out
    · exact h
  obtain ⟨ad, A0, c0, r0, rfl, hc0, hC0, hc0', HX0⟩ := RC.at_ hC h0
  go_enter Tryd.func30, Tryd.ntmps30
  go_wp2
  obtain ⟨w1, hw1⟩ : ∃ w1, w.alloc (.cells #[.int .i64 0, .slice none 0 0, .int .i64 0, .int .i64 0] 30) = w1 := ⟨_, rfl⟩
  have hb1 : Below w.heap.size w w1 := by rw [← hw1]; exact below_alloc (Below.refl _ _) _
  have hp1 : Blk w1 w.heap.size 30 #[.int .i64 0, .slice none 0 0, .int .i64 0, .int .i64 0] := by rw [← hw1]; exact Blk.new _ _ _
  rw [hw1]
  clear hw1
  have hC1 := Kd.C_below hC hb1
  have hc01 := (RC.at_ hC1 h0)
  have p0 : w1.cell? ⟨w.heap.size, 0, none⟩ = some (.int .i64 0) := (hp1.cell 0).trans rfl
  have p1 : w1.cell? ⟨w.heap.size, 1, none⟩ = some (.slice none 0 0) := (hp1.cell 1).trans rfl
  have p2 : w1.cell? ⟨w.heap.size, 2, none⟩ = some (.int .i64 0) := (hp1.cell 2).trans rfl
  have p3 : w1.cell? ⟨w.heap.size, 3, none⟩ = some (.int .i64 0) := (hp1.cell 3).trans rfl
  have f0 := hp1.frozen 0
  have f1 := hp1.frozen 1
  have f2 := hp1.frozen 2
  have f3 := hp1.frozen 3
  clear hc0 hC0 hc01
  obtain ⟨ad', A0', c0', r0', e1, hc0, hC0, hc0', HX0'⟩ := RC.at_ hC1 h0
  obtain rfl : ad = ad' := Option.some.inj e1
  obtain rfl : r0 = r0' := Option.some.inj (HX0.out.symm.trans HX0'.out)
  have HC1 := hid hC1
  have hcz : w1.cell? ad = some (.slice A0' r0.length c0') := by simpa [go_sem] using hc0
  clear hC hC1 e1 hc0
  go_loopw [7, 19] (fun z i wr => wr = w1 ∧ ∃ k : Nat, k ≤ l.length ∧ z = .int .i64 0 ∧ i = .int .i64 k ∧ Hid (∀ j < k, (l[j]?.getD []).length = (l[0]?.getD []).length)) (fun _ i _ => l.length - (intOf i).toNat)
  case atStart => exact ⟨rfl, 0, by omega, rfl, rfl, fun j hj => by omega⟩
  case round =>
    obtain ⟨rfl, k, hk, rfl, rfl, HE⟩ := hrel
    by_cases hlt : k < l.length
    · obtain ⟨ad'', A1, c1, x, e2, hcx, hCx, hcx', HX⟩ := RC.at_ HC1.out hlt
      obtain rfl : ad = ad'' := Option.some.inj e2
      by_cases hxy : x.length = r0.length
      · have HXY := hid hxy
        have hne : ((x.length : Int) != (r0.length : Int)) = false := by simp [hxy]
        clear hxy e2
        go_wp2
        go_roundw
        case rel => exact ⟨trivial, k + 1, by omega, rfl, by go_num, fun j hj => by
          rcases Nat.lt_or_ge j k with h | h
          · exact HE.out j h
          · obtain rfl : j = k := by omega
            rw [HX.out, HX0.out]; exact HXY.out⟩
        case measure => simp [intOf]; omega
      · have hne : ((x.length : Int) != (r0.length : Int)) = true := by simp; omega
        clear e2
        go_wp2
        refine bodyPost_ret (v := .tuple #[.agg #[.int .i64 0, .slice none 0 0, .int .i64 0, .int .i64 0], .int .i64 1]) (by simp [results, Tryd.results30, go_sem, hu, p0, p1, p2, p3]) rfl ⟨rfl, (((hb1.setCell (by exact Nat.le_refl _) _).setCell (by exact Nat.le_refl _) _).setCell (by exact Nat.le_refl _) _).setCell (by exact Nat.le_refl _) _⟩
    · exact absurd (fun j hj => HE.out j (by omega)) HBAD.out

/-- The state of FromWords between its loops. -/
def FW (w W : World) (n : Nat) (d e : Int) (v : Value) (ts : List Nat) : Prop :=
  Below w.heap.size w W ∧ Blk W w.heap.size 30 #[.int .i64 0, .slice none 0 0, .int .i64 0, .int .i64 0] ∧ Blk W (w.heap.size + 1) 30 #[.int .i64 n, v, .int .i64 d, .int .i64 e] ∧ W.ownsRow (w.heap.size + 2) 48 1 v ts.length (nums .u64 (il ts))
theorem keyedI : Maps.Keyed Tryd.prog 3 := Maps.int_keyed Tryd.underlying3
theorem zeroU (w : World) : (zeroValue 48).run Tryd.prog w = .ok (.int .u64 0) w := by kernel_rfl
theorem wfU {n : Nat} (h : n < 2 ^ 64) : (Lit.int .u64 (n : Int)).wf = true := by
  have h1 : IntKind.u64.min = 0 := by decide
  have h2 : IntKind.u64.max = 18446744073709551615 := by decide
  simp only [Lit.wf, h1, h2, Bool.and_eq_true, decide_eq_true_eq]
  omega
theorem own_weaken {w : World} {base base' : Nat} {e : TypeId} {size n : Nat} {v : Value} {xs : List Value} (h : w.ownsRow base e size v n xs) (hb : base' ≤ base) : w.ownsRow base' e size v n xs := by
  refine ⟨h.1, ?_⟩
  rcases h.2 with h | ⟨g, cap, cur, h1, h2, h3⟩
  · exact .inl h
  · exact .inr ⟨g, cap, cur, h1, Nat.le_trans hb h2, h3⟩
theorem FW.size {w W : World} {n : Nat} {d e : Int} {v : Value} {ts : List Nat} (h : FW w W n d e v ts) : w.heap.size + 2 ≤ W.heap.size := h.2.2.1.lt
theorem FW.step {w W W' : World} {n : Nat} {d e : Int} {v : Value} {ts : List Nat} (h : FW w W n d e v ts) (hb : Below W.heap.size W W') : FW w W' n d e v ts := by
  obtain ⟨h1, h2, h3, h4⟩ := h
  exact ⟨below_then h1 h1.size hb, h2.below hb h2.lt, h3.below hb h3.lt, pw_own_below h4 hb⟩
theorem FW.beside {w W W' : World} {n : Nat} {d e : Int} {v : Value} {ts : List Nat} {b : Nat} {o : Obj} (h : FW w W n d e v ts) (hg : W.grownBy W' (some b)) (hb : w.heap.size + 2 ≤ b) (ho : W.heap[b]? = some o) (hc : o.isCells = false) : FW w W' n d e v ts := by
  obtain ⟨h1, h2, h3, h4⟩ := h
  refine ⟨h1.grown hg h1.size (fun k hk => by cases hk; omega), h2.grown hg (fun e => by cases e; omega), h3.grown hg (fun e => by cases e; omega), own_other h4 hg (.inr (fun e => ?_))⟩
  obtain ⟨cells, hcc⟩ := own_typed h4 b e
  rw [ho] at hcc
  cases hcc
  simp [Obj.isCells] at hc
theorem FW.push {w W Wa : World} {n : Nat} {d e : Int} {v v9 : Value} {ts : List Nat} {y : Nat} (h : FW w W n d e v ts) (hg : W.grownBy Wa v.ownBlock) (ho : Wa.ownsRow (w.heap.size + 2) 48 1 v9 (il ts ++ [(y : Int)]).length (nums .u64 (il ts ++ [(y : Int)]))) :
    FW w (Wa.setCell ⟨w.heap.size + 1, 1, none⟩ v9) n d e v9 (ts ++ [y]) := by
  obtain ⟨h1, h2, h3, h4⟩ := h
  have hil : il ts ++ [(y : Int)] = il (ts ++ [y]) := by simp [il]
  refine ⟨(h1.grown hg h1.size (fun k hk => by have := own_base h4 k hk; omega)).setCell (by show w.heap.size ≤ w.heap.size + 1; omega) v9, (h2.grown hg (fun e => by have := own_base h4 _ e.symm; omega)).far (by show w.heap.size ≠ w.heap.size + 1; omega) v9, (h3.grown hg (fun e => by have := own_base h4 _ e.symm; omega)).set_ 1 v9, ?_⟩
  rw [hil, il_length] at ho
  exact own_other ho (grownBy_setCell Wa (w.heap.size + 1) 1 v9) (.inr (fun e => by have := own_base ho _ e; omega))
theorem FW.rows {w W : World} {n : Nat} {d e : Int} {v : Value} {ts : List Nat} (h : FW w W n d e v ts) {A : Option Addr} {m : Nat} {l : List (List Int)} (hC : RC w A m l) : RC W A m l := Kd.C_below hC h.1
set_option maxHeartbeats 4000000 in
set_option maxRecDepth 100000 in
/-- Words of one length. -/
theorem fw_any (A : Option Addr) (c : Nat) (l : List (List Int)) (d e : Int) (m : Nat) (w : World) (hC : RC w A l.length l) (hn : 1 ≤ l.length) (hn2 : l.length ≤ 12) (hm : ∀ r ∈ l, r.length = m) (hm2 : m ≤ 12) (hwf : ∀ r ∈ l, ∀ x ∈ r, (Lit.int .i64 x).wf = true)
    (ht : (testsUpto l m).length ≤ 12) (q : Nat) (r1 : Int) (r2 : List Int) (r3 r4 r5 : Int) (hk : Pd.disjunct_checked.f q l.length (il (sortedL (testsUpto l m))) d e = some (r1, r2, r3, r4, r5)) :
    Calls Tryd.prog 30 #[.slice A l.length c, .int .i64 d, .int .i64 e] w fun e' w' => ∃ v, e' = .returned (.tuple #[.agg #[.int .i64 r1, v, .int .i64 r3, .int .i64 r4], .int .i64 r5]) ∧ Kd.R (Kd.int .u64) 48 w' w.heap.size (fun _ => True) v r2 ∧ Below w.heap.size w w' := by
  have hu := Tryd.underlying30
  have HM := hid hm
  have HWF := hid hwf
  have HT := hid ht
  have HK := hid hk
  clear hm hwf ht hk
  have HC := hid hC
  obtain ⟨ad, A0, c0, r0, rfl, hc0, hC0, hc0', HX0⟩ := RC.at_ hC (show 0 < l.length by omega)
  have hr0 : r0.length = m := HM.out r0 (List.mem_of_getElem? HX0.out)
  clear hC hc0 hC0 hc0'
  go_enter Tryd.func30, Tryd.ntmps30
  go_wp2
  obtain ⟨w1, hw1⟩ : ∃ w1, w.alloc (.cells #[.int .i64 0, .slice none 0 0, .int .i64 0, .int .i64 0] 30) = w1 := ⟨_, rfl⟩
  have hb1 : Below w.heap.size w w1 := by rw [← hw1]; exact below_alloc (Below.refl _ _) _
  have hp1 : Blk w1 w.heap.size 30 #[.int .i64 0, .slice none 0 0, .int .i64 0, .int .i64 0] := by rw [← hw1]; exact Blk.new _ _ _
  have hz1 : w1.heap.size = w.heap.size + 1 := by rw [← hw1]; simp
  rw [hw1]
  clear hw1
  have HZ : Hid (∀ W, Below w.heap.size w W → ∃ A0 c0, W.cell? ad = some (.slice A0 m c0)) := fun W hW => by
    obtain ⟨ad', A0', c0', r0', e1, hc0, hC0, hc0', HX0'⟩ := RC.at_ (Kd.C_below HC.out hW) (show 0 < l.length by omega)
    obtain rfl : ad = ad' := Option.some.inj e1
    obtain rfl : r0 = r0' := Option.some.inj (HX0.out.symm.trans HX0'.out)
    exact ⟨A0', c0', by rw [← hr0]; simpa [go_sem] using hc0⟩
  obtain ⟨A1, c1, hcz⟩ := HZ.out w1 hb1
  have HC1 := hid (Kd.C_below HC.out hb1)
  go_loopw [7, 19] (fun z i wr => wr = w1 ∧ ∃ k : Nat, k ≤ l.length ∧ z = .int .i64 0 ∧ i = .int .i64 k) (fun _ i _ => l.length - (intOf i).toNat)
  case atStart => exact ⟨rfl, 0, by omega, rfl, rfl⟩
  case round =>
    obtain ⟨rfl, k, hk, rfl, rfl⟩ := hrel
    by_cases hlt : k < l.length
    · obtain ⟨ad'', A1, c1, x, e2, hcx, hCx, hcx', HX⟩ := RC.at_ HC1.out hlt
      obtain rfl : ad = ad'' := Option.some.inj e2
      have hxm : x.length = m := HM.out x (List.mem_of_getElem? HX.out)
      rw [hxm] at hcx
      have hne : ((m : Int) != (m : Int)) = false := by simp
      clear e2 hCx hcx' hxm
      go_wp2
      go_roundw
      case rel => exact ⟨trivial, k + 1, by omega, rfl, by go_num⟩
      case measure => simp [intOf]; omega
    · obtain rfl : k = l.length := by omega
      have hn1' : decide ((l.length : Int) < 1) = false := by simp; omega
      have hn2' : decide ((12 : Int) < (l.length : Int)) = false := by simp; omega
      go_upto_region 10 with (fail)
      obtain ⟨w2, hw2⟩ : ∃ w2, wr.alloc (.cells #[.int .i64 l.length, .slice none 0 0, .int .i64 d, .int .i64 e] 30) = w2 := ⟨_, rfl⟩
      have hF2 : FW w w2 l.length d e (.slice none 0 0) [] := by rw [← hw2]; exact ⟨below_alloc hb1 _, hp1.alloc _, by rw [← hz1]; exact Blk.new _ _ _, own_nil _ _ _ _⟩
      rw [hw2]
      clear hw2 hcz hp1 hb1 hn1' hn2' hz1 HC1 hlt hk
      obtain ⟨A2, c2, hcz⟩ := HZ.out w2 hF2.1
      go_wp2
      go_loopw [7, 50] (fun z i wr => ∃ (k : Nat) (v : Value) (ts : List Nat), k ≤ m ∧ z = .int .i64 0 ∧ i = .int .i64 k ∧ ts.Perm (testsUpto l k) ∧ FW w wr l.length d e v ts) (fun _ i _ => m - (intOf i).toNat)
      case atStart => exact ⟨0, _, [], by omega, rfl, rfl, List.Perm.refl _, hF2⟩
      case round =>
        clear hcz hF2
        obtain ⟨k, v, ts, hk, rfl, rfl, hts, hF⟩ := hrel
        have hmm := @run_makeMap Tryd.prog
        by_cases hlt : k < m
        · go_upto_region 14 with (fail)
          obtain ⟨w3, hw3⟩ : ∃ w3, wr.alloc (.map #[] 0) = w3 := ⟨_, rfl⟩
          have hmo3 : w3.ownsMap (H := Unit) Tryd.prog 3 (plainElem Tryd.prog 48) wr.heap.size 0 (.map []) := by rw [← hw3]; exact World.ownsMap_made _ _ _ _
          have hF3 : FW w w3 l.length d e v ts := by rw [← hw3]; exact hF.step (below_alloc (Below.refl _ _) _)
          have hbz := hF.size
          rw [hw3]
          obtain ⟨b, hb⟩ : ∃ b, wr.heap.size = b := ⟨_, rfl⟩
          rw [hb] at hmo3 hbz ⊢
          clear hw3 hF hmm hb
          obtain ⟨col, hcol⟩ : ∃ col, colAt l k = col := ⟨_, rfl⟩
          have hcl : col.length = l.length := by rw [← hcol]; simp [colAt]
          go_wp2
          go_loopw [56] (fun i w4 => ∃ (j : Nat) (D : DataW Unit), j ≤ l.length ∧ i = .int .i64 j ∧ w4.ownsMap Tryd.prog 3 (plainElem Tryd.prog 48) b j D ∧ FW w w4 l.length d e v ts ∧ Hid (∀ x : Int, D.atKey (.int .i64 x) (.lit (.int .u64 0)) = .lit (.int .u64 (maskL col x j))) ∧ Hid (∀ x : Int, Maps.has D (.int .i64 x) = decide (x ∈ col.take j))) (fun i _ => l.length - (intOf i).toNat)
          case atStart => exact ⟨0, _, by omega, rfl, hmo3, hF3, fun x => by simp [maskL]; rfl, fun x => by simp [Maps.has]⟩
          case round =>
            clear hmo3 hF3
            obtain ⟨j, D, hj, rfl, hmo, hF, HD, HH⟩ := hrel
            by_cases hltj : j < l.length
            · obtain ⟨ad'', A1, c1, x, e2, hcx, hCx, hcx', HX⟩ := RC.at_ (hF.rows HC.out) hltj
              obtain rfl : ad = ad'' := Option.some.inj e2
              have hxm : x.length = m := HM.out x (List.mem_of_getElem? HX.out)
              obtain ⟨bd, s, rfl, hcs, HS⟩ := IC.at_ hCx (show k < x.length by omega)
              have hws : (Lit.int .i64 s).wf = true := HWF.out x (List.mem_of_getElem? HX.out) s (List.mem_of_getElem? HS.out.1)
              rw [hxm] at hcx
              clear e2 hCx hcx'
              have hsz := hF.size
              go_upto_region 17 with (fail)
              have hcolj : rd col j = s := by
                rw [← hcol, ← HS.out.2]
                unfold colAt rd
                simp [List.getD_eq_getElem?_getD, HX.out]
              obtain ⟨M, hM⟩ : ∃ M, maskL col s j = M := ⟨_, rfl⟩
              have hMl : M < 2 ^ j := by rw [← hM]; exact maskL_lt _ _ _
              have hj12 : 2 ^ j < 2 ^ 12 := Nat.pow_lt_pow_right (by decide) (by omega)
              obtain ⟨mm, hmmv⟩ : ∃ mm, M ||| 2 ^ j = mm := ⟨_, rfl⟩
              have hmml : mm < 2 ^ (j + 1) := by rw [← hmmv]; exact Nat.or_lt_two_pow (Nat.lt_trans hMl (Nat.pow_lt_pow_right (by decide) (by omega))) (Nat.pow_lt_pow_right (by decide) (by omega))
              have hj13 : 2 ^ (j + 1) ≤ 2 ^ 12 := Nat.pow_le_pow_right (by decide) (by omega)
              have e3 : bits .or .u64 (M : Int) (IntKind.u64.wrap (2 ^ j)) = (mm : Int) := by
                rw [show ((2 : Int) ^ j) = ((2 ^ j : Nat) : Int) from by simp, wrapU_nat (by omega), uor (by omega) (by omega), hmmv]
              have hkey : keyOf Tryd.prog 3 (.int .i64 s) = some (.int .i64 s) := Maps.keyOf_int_mk Tryd.underlying3 hws
              obtain ⟨cc, hrunL, hat, _⟩ := hmo.drew.lookup_int (t := 77) keyedI Tryd.underlying77 Tryd.underlying48 (zeroU _) hkey
              obtain rfl : cc = (M : Int) := by
                rw [HD.out s, hM] at hat
                simpa using hat.symm
              obtain ⟨w9, hrunU, hown9, hgr9⟩ := hmo.drew.update (t := 77) keyedI Tryd.underlying77 (by unfold maxLen; omega) hkey (val := .int .u64 (mm : Int)) (plainElem_int Tryd.underlying48 (wfU (by omega)))
              obtain ⟨es, clock, hbo, _⟩ := id hmo
              have FIN := hid (show ∃ (D' : DataW Unit), w9.ownsMap Tryd.prog 3 (plainElem Tryd.prog 48) b (j + 1) D' ∧ FW w w9 l.length d e v ts ∧ Hid (∀ x : Int, D'.atKey (.int .i64 x) (.lit (.int .u64 0)) = .lit (.int .u64 (maskL col x (j + 1)))) ∧ Hid (∀ x : Int, Maps.has D' (.int .i64 x) = decide (x ∈ col.take (j + 1))) from
                ⟨_, hown9, FW.beside (o := .map es clock) hF (((grown_drew wr).but (some b)).trans hgr9) hbz hbo rfl, atKey_fill hmo.isMap HD.out hcolj _ (by rw [hM, hmmv]), has_fill hmo.isMap (by omega) HH.out hcolj _⟩)
              clear hat hown9 hgr9 hmo hF HD HH hkey hcolj hM hMl hmmv hmml
              refine (wpIn_wide (n := 8)).1 ?_
              obtain ⟨vv, hvv⟩ : ∃ vv : Nat → Value, vv = fun i => (#[.map (some b), .slice (some bd) m c1, .int .i64 k, .pointer (some (bd.add k)), .int .i64 s, .int .u64 (M : Int), .int .i64 j, .int .u64 (IntKind.u64.wrap (2 ^ j)), .int .u64 (mm : Int)] : Array Value).getD i undef := ⟨_, rfl⟩
              have mk : ∀ (L : Nat → Bool) (a' : Act) (w' : World), a' = ({ tmps := #[.slice (some ad) l.length c, .int .i64 d, .int .i64 e, undef, undef, undef, .pointer (some ⟨w.heap.size, 0, none⟩), .int .i64 0, undef, u9, .pointer (some ⟨w.heap.size + 1, 0, none⟩), .int .i64 k, .map (some b), .int .i64 j, .slice (some bd) m c1, undef, u16, .slice (some ad) l.length c, .int .i64 l.length, .int .i64 l.length, .bool false, u21, u22, u23, u24, u25, u26, u27, u28, u29, u30, u31, .slice (some ad) l.length c, .int .i64 l.length, .bool false, .bool false, .slice (some ad) l.length c, .int .i64 l.length, .bool false, .bool false, undef, .slice (some ad) l.length c, .int .i64 l.length, .int .i64 d, .int .i64 e, .agg #[.int .i64 l.length, .slice none 0 0, .int .i64 d, .int .i64 e], .slice (some ad) l.length c, .pointer (some ad), .slice A2 m c2, .int .i64 m, .int .i64 k, .bool true, .int .i64 k, .map (some b), .slice (some ad) l.length c, .int .i64 l.length, .int .i64 j, .bool true, .int .i64 j, .pointer (some (ad.add j)), .slice (some bd) m c1, a'.tmps.getD (61 + 0) undef, a'.tmps.getD (61 + 1) undef, a'.tmps.getD (61 + 2) undef, a'.tmps.getD (61 + 3) undef, a'.tmps.getD (61 + 4) undef, a'.tmps.getD (61 + 5) undef, a'.tmps.getD (61 + 6) undef, a'.tmps.getD (61 + 7) undef, a'.tmps.getD (61 + 8) undef, u70, u71, u72, u73, u74, u75, u76, u77, u78, u79, u80, u81, u82, u83, u84, u85, u86, u87, u88, undef, undef, undef, undef, undef, undef, undef], defers := [] } : Act) → (∀ j < 9, L j = true → a'.tmps.getD (61 + j) undef = vv j) → (fun (L : Nat → Bool) (wz : World) => (L 9 = true → ∀ i < 9, L i = true) ∧ (L 9 = false → wz = wr.drew) ∧ (L 9 = true → wz = w9)) L w' → ∃ y : Nat → Value, a' = ({ tmps := #[.slice (some ad) l.length c, .int .i64 d, .int .i64 e, undef, undef, undef, .pointer (some ⟨w.heap.size, 0, none⟩), .int .i64 0, undef, u9, .pointer (some ⟨w.heap.size + 1, 0, none⟩), .int .i64 k, .map (some b), .int .i64 j, .slice (some bd) m c1, undef, u16, .slice (some ad) l.length c, .int .i64 l.length, .int .i64 l.length, .bool false, u21, u22, u23, u24, u25, u26, u27, u28, u29, u30, u31, .slice (some ad) l.length c, .int .i64 l.length, .bool false, .bool false, .slice (some ad) l.length c, .int .i64 l.length, .bool false, .bool false, undef, .slice (some ad) l.length c, .int .i64 l.length, .int .i64 d, .int .i64 e, .agg #[.int .i64 l.length, .slice none 0 0, .int .i64 d, .int .i64 e], .slice (some ad) l.length c, .pointer (some ad), .slice A2 m c2, .int .i64 m, .int .i64 k, .bool true, .int .i64 k, .map (some b), .slice (some ad) l.length c, .int .i64 l.length, .int .i64 j, .bool true, .int .i64 j, .pointer (some (ad.add j)), .slice (some bd) m c1, y 0, y 1, y 2, y 3, y 4, y 5, y 6, y 7, y 8, u70, u71, u72, u73, u74, u75, u76, u77, u78, u79, u80, u81, u82, u83, u84, u85, u86, u87, u88, undef, undef, undef, undef, undef, undef, undef], defers := [] } : Act) ∧ (∀ j < 9, L j = true → y j = vv j) ∧ (fun (L : Nat → Bool) (wz : World) => (L 9 = true → ∀ i < 9, L i = true) ∧ (L 9 = false → wz = wr.drew) ∧ (L 9 = true → wz = w9)) L w' := fun L a' w' h1 h2 h3 => ⟨fun m => a'.tmps.getD (61 + m) undef, h1, h2, h3⟩
              refine wpIn_region_inv (by kernel_rfl) (fun L aI wI => ∃ y : Nat → Value, aI = ({ tmps := #[.slice (some ad) l.length c, .int .i64 d, .int .i64 e, undef, undef, undef, .pointer (some ⟨w.heap.size, 0, none⟩), .int .i64 0, undef, u9, .pointer (some ⟨w.heap.size + 1, 0, none⟩), .int .i64 k, .map (some b), .int .i64 j, .slice (some bd) m c1, undef, u16, .slice (some ad) l.length c, .int .i64 l.length, .int .i64 l.length, .bool false, u21, u22, u23, u24, u25, u26, u27, u28, u29, u30, u31, .slice (some ad) l.length c, .int .i64 l.length, .bool false, .bool false, .slice (some ad) l.length c, .int .i64 l.length, .bool false, .bool false, undef, .slice (some ad) l.length c, .int .i64 l.length, .int .i64 d, .int .i64 e, .agg #[.int .i64 l.length, .slice none 0 0, .int .i64 d, .int .i64 e], .slice (some ad) l.length c, .pointer (some ad), .slice A2 m c2, .int .i64 m, .int .i64 k, .bool true, .int .i64 k, .map (some b), .slice (some ad) l.length c, .int .i64 l.length, .int .i64 j, .bool true, .int .i64 j, .pointer (some (ad.add j)), .slice (some bd) m c1, y 0, y 1, y 2, y 3, y 4, y 5, y 6, y 7, y 8, u70, u71, u72, u73, u74, u75, u76, u77, u78, u79, u80, u81, u82, u83, u84, u85, u86, u87, u88, undef, undef, undef, undef, undef, undef, undef], defers := [] } : Act) ∧ (∀ j < 9, L j = true → y j = vv j) ∧ (fun (L : Nat → Bool) (wz : World) => (L 9 = true → ∀ i < 9, L i = true) ∧ (L 9 = false → wz = wr.drew) ∧ (L 9 = true → wz = w9)) L wI) ?acyc ?start ?step ?rdone
              case acyc => exact fun i o ho => acyc_of (by kernel_rfl) i o ho
              case start => exact mk (fun _ => false) _ _ rfl (fun _ _ h => by cases h) (by exact ⟨(fun h => nomatch h), (fun _ => rfl), (fun h => nomatch h)⟩)
              case step =>
                rintro i o L a wx ho hLi hdep ⟨y, rfl, hy, hWI⟩ K hK
                have hi : i < 10 := (Array.getElem?_eq_some_iff.1 ho).1
                rcases i with _ | _ | _ | _ | _ | _ | _ | _ | _ | _ | i
                · obtain rfl := Option.some.inj ho
                  clear hdep ho
                  obtain ⟨C9, hw0, _⟩ := hWI
                  have n9 : L 9 = false := Bool.eq_false_iff.2 (fun h => by have := C9 h 0 (by omega); rw [hLi] at this; cases this)
                  obtain rfl := hw0 n9
                  go_simp
                  refine hK _ _ (mk _ _ _ rfl ?_ ?_)
                  rotate_left
                  · exact ⟨fun h => by simp [put1, n9] at h, fun _ => rfl, fun h => by simp [put1, n9] at h⟩
                  · intro j hj h
                    rcases j with _ | _ | _ | _ | _ | _ | _ | _ | _ | j
                    all_goals first | (rw [hvv]; rfl) | exact hy _ (by omega) (by simpa [put1] using h) | (exfalso; omega)
                · obtain rfl := Option.some.inj ho
                  clear hdep ho
                  obtain ⟨C9, hw0, _⟩ := hWI
                  have n9 : L 9 = false := Bool.eq_false_iff.2 (fun h => by have := C9 h 1 (by omega); rw [hLi] at this; cases this)
                  obtain rfl := hw0 n9
                  go_simp
                  refine hK _ _ (mk _ _ _ rfl ?_ ?_)
                  rotate_left
                  · exact ⟨fun h => by simp [put1, n9] at h, fun _ => rfl, fun h => by simp [put1, n9] at h⟩
                  · intro j hj h
                    rcases j with _ | _ | _ | _ | _ | _ | _ | _ | _ | j
                    all_goals first | (rw [hvv]; rfl) | exact hy _ (by omega) (by simpa [put1] using h) | (exfalso; omega)
                · obtain rfl := Option.some.inj ho
                  clear hdep ho
                  obtain ⟨C9, hw0, _⟩ := hWI
                  have n9 : L 9 = false := Bool.eq_false_iff.2 (fun h => by have := C9 h 2 (by omega); rw [hLi] at this; cases this)
                  obtain rfl := hw0 n9
                  go_simp
                  refine hK _ _ (mk _ _ _ rfl ?_ ?_)
                  rotate_left
                  · exact ⟨fun h => by simp [put1, n9] at h, fun _ => rfl, fun h => by simp [put1, n9] at h⟩
                  · intro j hj h
                    rcases j with _ | _ | _ | _ | _ | _ | _ | _ | _ | j
                    all_goals first | (rw [hvv]; rfl) | exact hy _ (by omega) (by simpa [put1] using h) | (exfalso; omega)
                · obtain rfl := Option.some.inj ho
                  have d1 : L 1 = true := hdep ⟨1, .data⟩ (by simp) rfl
                  have d2 : L 2 = true := hdep ⟨2, .data⟩ (by simp) rfl
                  have e1 : y 1 = .slice (some bd) m c1 := (hy 1 (by omega) d1).trans (by rw [hvv]; rfl)
                  have e2 : y 2 = .int .i64 k := (hy 2 (by omega) d2).trans (by rw [hvv]; rfl)
                  clear hdep ho
                  rw [e1, e2]
                  obtain ⟨C9, hw0, _⟩ := hWI
                  have n9 : L 9 = false := Bool.eq_false_iff.2 (fun h => by have := C9 h 3 (by omega); rw [hLi] at this; cases this)
                  obtain rfl := hw0 n9
                  go_simp
                  refine hK _ _ (mk _ _ _ rfl ?_ ?_)
                  rotate_left
                  · exact ⟨fun h => by simp [put1, n9] at h, fun _ => rfl, fun h => by simp [put1, n9] at h⟩
                  · intro j hj h
                    rcases j with _ | _ | _ | _ | _ | _ | _ | _ | _ | j
                    all_goals first | (rw [hvv]; rfl) | exact hy _ (by omega) (by simpa [put1] using h) | (exfalso; omega)
                · obtain rfl := Option.some.inj ho
                  have d3 : L 3 = true := hdep ⟨3, .data⟩ (by simp) rfl
                  have e3 : y 3 = .pointer (some (bd.add k)) := (hy 3 (by omega) d3).trans (by rw [hvv]; rfl)
                  clear hdep ho
                  rw [e3]
                  obtain ⟨C9, hw0, _⟩ := hWI
                  have n9 : L 9 = false := Bool.eq_false_iff.2 (fun h => by have := C9 h 4 (by omega); rw [hLi] at this; cases this)
                  obtain rfl := hw0 n9
                  go_simp
                  refine hK _ _ (mk _ _ _ rfl ?_ ?_)
                  rotate_left
                  · exact ⟨fun h => by simp [put1, n9] at h, fun _ => rfl, fun h => by simp [put1, n9] at h⟩
                  · intro j hj h
                    rcases j with _ | _ | _ | _ | _ | _ | _ | _ | _ | j
                    all_goals first | (rw [hvv]; rfl) | exact hy _ (by omega) (by simpa [put1] using h) | (exfalso; omega)
                · obtain rfl := Option.some.inj ho
                  have d0 : L 0 = true := hdep ⟨0, .data⟩ (by simp) rfl
                  have d4 : L 4 = true := hdep ⟨4, .data⟩ (by simp) rfl
                  have e0 : y 0 = .map (some b) := (hy 0 (by omega) d0).trans (by rw [hvv]; rfl)
                  have e4 : y 4 = .int .i64 s := (hy 4 (by omega) d4).trans (by rw [hvv]; rfl)
                  clear hdep ho
                  rw [e0, e4]
                  obtain ⟨C9, hw0, _⟩ := hWI
                  have n9 : L 9 = false := Bool.eq_false_iff.2 (fun h => by have := C9 h 5 (by omega); rw [hLi] at this; cases this)
                  obtain rfl := hw0 n9
                  go_simp
                  refine hK _ _ (mk _ _ _ rfl ?_ ?_)
                  rotate_left
                  · exact ⟨fun h => by simp [put1, n9] at h, fun _ => rfl, fun h => by simp [put1, n9] at h⟩
                  · intro j hj h
                    rcases j with _ | _ | _ | _ | _ | _ | _ | _ | _ | j
                    all_goals first | (rw [hvv]; rfl) | exact hy _ (by omega) (by simpa [put1] using h) | (exfalso; omega)
                · obtain rfl := Option.some.inj ho
                  clear hdep ho
                  obtain ⟨C9, hw0, _⟩ := hWI
                  have n9 : L 9 = false := Bool.eq_false_iff.2 (fun h => by have := C9 h 6 (by omega); rw [hLi] at this; cases this)
                  obtain rfl := hw0 n9
                  go_simp
                  refine hK _ _ (mk _ _ _ rfl ?_ ?_)
                  rotate_left
                  · exact ⟨fun h => by simp [put1, n9] at h, fun _ => rfl, fun h => by simp [put1, n9] at h⟩
                  · intro j hj h
                    rcases j with _ | _ | _ | _ | _ | _ | _ | _ | _ | j
                    all_goals first | (rw [hvv]; rfl) | exact hy _ (by omega) (by simpa [put1] using h) | (exfalso; omega)
                · obtain rfl := Option.some.inj ho
                  have d6 : L 6 = true := hdep ⟨6, .data⟩ (by simp) rfl
                  have e6 : y 6 = .int .i64 j := (hy 6 (by omega) d6).trans (by rw [hvv]; rfl)
                  clear hdep ho
                  rw [e6]
                  obtain ⟨C9, hw0, _⟩ := hWI
                  have n9 : L 9 = false := Bool.eq_false_iff.2 (fun h => by have := C9 h 7 (by omega); rw [hLi] at this; cases this)
                  obtain rfl := hw0 n9
                  go_simp
                  refine hK _ _ (mk _ _ _ rfl ?_ ?_)
                  rotate_left
                  · exact ⟨fun h => by simp [put1, n9] at h, fun _ => rfl, fun h => by simp [put1, n9] at h⟩
                  · intro j hj h
                    rcases j with _ | _ | _ | _ | _ | _ | _ | _ | _ | j
                    all_goals first | (rw [hvv]; rfl) | exact hy _ (by omega) (by simpa [put1] using h) | (exfalso; omega)
                · obtain rfl := Option.some.inj ho
                  have d5 : L 5 = true := hdep ⟨5, .data⟩ (by simp) rfl
                  have d7 : L 7 = true := hdep ⟨7, .data⟩ (by simp) rfl
                  have e5 : y 5 = .int .u64 (M : Int) := (hy 5 (by omega) d5).trans (by rw [hvv]; rfl)
                  have e7 : y 7 = .int .u64 (IntKind.u64.wrap (2 ^ j)) := (hy 7 (by omega) d7).trans (by rw [hvv]; rfl)
                  clear hdep ho
                  rw [e5, e7]
                  obtain ⟨C9, hw0, _⟩ := hWI
                  have n9 : L 9 = false := Bool.eq_false_iff.2 (fun h => by have := C9 h 8 (by omega); rw [hLi] at this; cases this)
                  obtain rfl := hw0 n9
                  go_simp
                  refine hK _ _ (mk _ _ _ rfl ?_ ?_)
                  rotate_left
                  · exact ⟨fun h => by simp [put1, n9] at h, fun _ => rfl, fun h => by simp [put1, n9] at h⟩
                  · intro j hj h
                    rcases j with _ | _ | _ | _ | _ | _ | _ | _ | _ | j
                    all_goals first | (rw [hvv]; rfl) | exact hy _ (by omega) (by simpa [put1] using h) | (exfalso; omega)
                · obtain rfl := Option.some.inj ho
                  have d0 : L 0 = true := hdep ⟨0, .data⟩ (by simp) rfl
                  have d4 : L 4 = true := hdep ⟨4, .data⟩ (by simp) rfl
                  have d8 : L 8 = true := hdep ⟨8, .data⟩ (by simp) rfl
                  have d0 : L 0 = true := hdep ⟨0, .phase⟩ (by simp) rfl
                  have d1 : L 1 = true := hdep ⟨1, .phase⟩ (by simp) rfl
                  have d2 : L 2 = true := hdep ⟨2, .phase⟩ (by simp) rfl
                  have d3 : L 3 = true := hdep ⟨3, .phase⟩ (by simp) rfl
                  have d4 : L 4 = true := hdep ⟨4, .phase⟩ (by simp) rfl
                  have d5 : L 5 = true := hdep ⟨5, .phase⟩ (by simp) rfl
                  have d6 : L 6 = true := hdep ⟨6, .phase⟩ (by simp) rfl
                  have d7 : L 7 = true := hdep ⟨7, .phase⟩ (by simp) rfl
                  have d8 : L 8 = true := hdep ⟨8, .phase⟩ (by simp) rfl
                  have e0 : y 0 = .map (some b) := (hy 0 (by omega) d0).trans (by rw [hvv]; rfl)
                  have e4 : y 4 = .int .i64 s := (hy 4 (by omega) d4).trans (by rw [hvv]; rfl)
                  have e8 : y 8 = .int .u64 (mm : Int) := (hy 8 (by omega) d8).trans (by rw [hvv]; rfl)
                  clear hdep ho
                  rw [e0, e4, e8]
                  obtain ⟨C9, hw0, _⟩ := hWI
                  have n9 : L 9 = false := hLi
                  obtain rfl := hw0 n9
                  go_simp
                  refine hK _ _ (mk _ _ _ rfl ?_ ?_)
                  rotate_left
                  · exact ⟨fun _ i hi => by match i, hi with | 0, _ => simp [put1, d0] | 1, _ => simp [put1, d1] | 2, _ => simp [put1, d2] | 3, _ => simp [put1, d3] | 4, _ => simp [put1, d4] | 5, _ => simp [put1, d5] | 6, _ => simp [put1, d6] | 7, _ => simp [put1, d7] | 8, _ => simp [put1, d8] | i + 9, hi => omega, (fun h => by simp [put1] at h), fun _ => rfl⟩
                  · intro j hj h
                    rcases j with _ | _ | _ | _ | _ | _ | _ | _ | _ | j
                    all_goals first | (rw [hvv]; rfl) | exact hy _ (by omega) (by simpa [put1] using h) | (exfalso; omega)
                · exfalso; omega
              case rdone =>
                rintro L a w5 hall ⟨y, rfl, hy, hWI⟩
                obtain rfl := hWI.2.2 (hall 9 (by decide))
                generalize y 0 = y0
                generalize y 1 = y1
                generalize y 2 = y2
                generalize y 3 = y3
                generalize y 4 = y4
                generalize y 5 = y5
                generalize y 6 = y6
                generalize y 7 = y7
                generalize y 8 = y8
                clear mk hvv hy hWI hall hrunU hrunL e3
                go_wp2
                go_roundw
                case rel =>
                  obtain ⟨D', f1, f2, f3, f4⟩ := FIN.out
                  exact ⟨j + 1, D', by omega, by go_num, f1, f2, f3, f4⟩
                case measure => simp [intOf]; omega
            · obtain rfl : j = l.length := by omega
              have HHC : Hid (∀ x : Int, Maps.has D (.int .i64 x) = decide (x ∈ col)) := fun x => by rw [HH.out x, List.take_of_length_le (by omega)]
              have hcnt : Maps.size D ≤ l.length := by
                obtain ⟨es, clock, _, _, hs, rfl⟩ := id hmo
                have e1 : Maps.size (DataW.map ((es.toList.map (Go.WideElems.rg Tryd.prog 3 (plainElem (H := Unit) Tryd.prog 48))).foldr DataW.insert [])) = es.size := by simp [Maps.size, length_sorted]
                rw [e1]; exact hs
              have hsz := hF.size
              have hbl := hmo.lt
              clear HH
              go_wp2_with (first
                | (at_range; refine wpList_range_own _ rfl _ 77 rfl 3 48 keyedI Tryd.underlying77 _ b l.length D rfl hmo ?_; intro w0 hrg0 hg0 hs0)
                | go_in)
              go_frame
              have hF0 := hF.step (⟨hg0.os, hg0.tape, hg0.output, hg0.size, fun i hi => hg0.block i hi (by simp)⟩ : Below wr.heap.size wr w0)
              obtain ⟨r, hr⟩ : ∃ r, wr.heap.size = r := ⟨_, rfl⟩
              rw [hr] at hrg0 hs0 hsz ⊢
              clear hF hmo hg0 hr hbl
              go_loopw [16] (fun _ wq => ∃ (left : Lit → Bool) (cnt : Nat) (v' : Value) (keys : List Int), wq.ranges Tryd.prog 3 (plainElem Tryd.prog 48) b r l.length D left cnt ∧ FW w wq l.length d e v' (ts ++ keys.map fun x => maskL col x l.length) ∧ keys.Nodup ∧ keys.length + cnt ≤ l.length ∧ Hid (∀ x : Int, left (.int .i64 x) = (decide (x ∈ col) && !decide (x ∈ keys))) ∧ Hid (∀ x ∈ keys, x ∈ col)) (fun _ wq => wq.rangeLeft b r)
              case atStart => exact ⟨_, _, v, [], hrg0, by simpa using hF0, List.nodup_nil, by simpa using hcnt, fun x => by rw [HHC.out x]; simp, fun x h => nomatch h⟩
              case round =>
                clear hrg0 hF0 hs0
                obtain ⟨left, cnt, v', keys, hrg, hF, hnd, hkc, HL, HKC⟩ := hrel
                go_wp2_with (first
                  | (at_next; refine wpList_next_ranges_ii _ rfl _ rfl 3 48 .i64 .u64 keyedI Tryd.underlying3 Tryd.underlying48 b r l.length _ _ _ rfl hrg ?_ ?_)
                  | go_in)
                · intro _ hl0
                  have hall : ∀ x : Int, x ∈ keys ↔ x ∈ col := fun x => ⟨HKC.out x, fun hx => by
                    have h1 := HL.out x
                    rw [hl0] at h1
                    simp only [hx, decide_true, Bool.true_and] at h1
                    by_cases h2 : x ∈ keys
                    · exact h2
                    · simp [h2] at h1⟩
                  have hp : (ts ++ keys.map fun x => maskL col x l.length).Perm (testsUpto l (k + 1)) := by
                    rw [← hcol] at hall ⊢
                    exact perm_keys hts hnd hall
                  have htl : (ts ++ keys.map fun x => maskL col x l.length).length ≤ 12 := by
                    rw [hp.length_eq]
                    exact Nat.le_trans (testsUpto_le (by omega)) HT.out
                  obtain ⟨T, hT⟩ : ∃ T, (ts ++ keys.map fun x => maskL col x l.length) = T := ⟨_, rfl⟩
                  rw [hT] at hp htl hF
                  obtain ⟨A9, c9, hv9⟩ := own_slice hF.2.2.2
                  subst hv9
                  have q1 : wr.cell? ⟨w.heap.size + 1, 1, none⟩ = some (.slice A9 T.length c9) := (hF.2.2.1.cell 1).trans rfl
                  have h24 : decide ((24 : Int) < (T.length : Int)) = false := by simp; omega
                  clear hrg HL HKC hall hl0 hnd hT
                  go_wp2
                  go_roundw
                  case rel => exact ⟨k + 1, _, T, by omega, rfl, by go_num, hp, hF⟩
                  case measure => simp [intOf]; omega
                · intro x cc w1 cnt1 hwx hwc hlx hat hrg1 hlt1 hg1 hs1 hen
                  have hxc : x ∈ col ∧ x ∉ keys := by
                    have h1 := HL.out x
                    rw [hlx] at h1
                    by_cases h2 : x ∈ col <;> by_cases h3 : x ∈ keys <;> simp [h2, h3] at h1 ⊢
                  obtain ⟨X, hX⟩ : ∃ X, maskL col x l.length = X := ⟨_, rfl⟩
                  obtain rfl : cc = (X : Int) := by
                    have h1 := hat (.lit (.int .u64 0))
                    rw [HD.out x, hX] at h1
                    simpa using h1.symm
                  have hsz9 := hF.size
                  have hro : ∃ o : Obj, wr.heap[r]? = some o ∧ o.isCells = false := by
                    obtain ⟨es, clock, since, seen, c0, _, _, _, _, hrr, _⟩ := hrg
                    exact ⟨_, hrr, rfl⟩
                  obtain ⟨o, ho1, ho2⟩ := hro
                  have hF1 := hF.beside hg1 (by omega) ho1 ho2
                  have hkl : keys.length + 1 ≤ l.length := by omega
                  have hTl : (ts ++ keys.map fun x => maskL col x l.length).length < 2 ^ 40 := by
                    have h1 := Nat.le_trans (testsUpto_le (l := l) (show k ≤ m by omega)) HT.out
                    rw [List.length_append, List.length_map, hts.length_eq]; omega
                  have hTn : (ts ++ (keys ++ [x]).map fun x => maskL col x l.length) = (ts ++ keys.map fun x => maskL col x l.length) ++ [X] := by simp [hX]
                  obtain ⟨T, hT⟩ : ∃ T, (ts ++ keys.map fun x => maskL col x l.length) = T := ⟨_, rfl⟩
                  rw [hT] at hF1 hTl hTn
                  have HTN := hid hTn
                  obtain ⟨hFa, hFb, hFc, hFd⟩ := id hF1
                  have HO1 := hid (show w1.ownsRow (w.heap.size + 2) 48 1 v' (il T).length (nums .u64 (il T)) from by rw [il_length]; exact hFd)
                  have q1 : w1.cell? ⟨w.heap.size + 1, 1, none⟩ = some v' := (hFc.cell 1).trans rfl
                  have hz1 : w.heap.size + 2 ≤ w1.heap.size := hF1.size
                  have hrowne : v'.ownBlock ≠ some (w.heap.size + 1) := fun e => by have := own_base hFd _ e; omega
                  have NB := hid (show some b ≠ v'.ownBlock from fun e => by
                    obtain ⟨cells, hcc⟩ := own_typed hFd b e.symm
                    obtain ⟨es, clock, hbb, _⟩ := hrg1.owns
                    rw [hbb] at hcc
                    cases hcc)
                  have NR := hid (show some r ≠ v'.ownBlock from fun e => by
                    obtain ⟨cells, hcc⟩ := own_typed hFd r e.symm
                    obtain ⟨es, clock, since, seen, c0, _, _, _, _, hrr, _⟩ := hrg1
                    rw [hrr] at hcc
                    cases hcc)
                  have hus := Tryd.underlying28
                  have REL := hid (fun (v9 : Value) (wA : World) (h1 : wA.ownsRow (w.heap.size + 2) 48 1 v9 (il T ++ [(X : Int)]).length (nums .u64 (il T ++ [(X : Int)]))) (h2 : w1.grownBy wA v'.ownBlock) =>
                    And.intro (hrg1.kept h2 NB.out NR.out |>.kept (grownBy_setCell wA (w.heap.size + 1) 1 v9) (by simp; omega) (by simp; omega)) (FW.push hF1 h2 h1))
                  have MEA := hid (show cnt1 < wr.rangeLeft b r from by rw [hrg.left_eq]; exact hlt1)
                  have HXC := hid hxc
                  have HND := hid hnd
                  clear hF hF1 hrg hrg1 hFa hFb hg1 hTn hxc hnd ho1 ho2 hat hlx hT
                  go_wp2_with (first
                    | (at_builtin; refine print_append_num (w.heap.size + 2) rfl (.tmp 78) (.tmp 80) _ _ .u64 8 rfl hus infoUd (by decide) v' (il T) (X : Int) (by simp [Act.eval]) (by simp [Act.eval]) HO1.out (Below.refl _ _) hz1 (by rw [il_length]; omega) ?_; intro v9 wA hown9 _ hgA _; obtain ⟨A9, c9, hv9⟩ := own_slice hown9; subst hv9
                       have q1A : wA.cell? ⟨w.heap.size + 1, 1, none⟩ = some v' := (World.cell?_of_block (w := w1) (a := ⟨w.heap.size + 1, 1, none⟩) (hgA.block _ (show w.heap.size + 1 < _ by omega) (fun e => hrowne e.symm))).trans q1
                       have f1A : wA.frozen? ⟨w.heap.size + 1, 1, none⟩ = false := (World.frozen?_of_block (w := w1) (a := ⟨w.heap.size + 1, 1, none⟩) (hgA.block _ (show w.heap.size + 1 < _ by omega) (fun e => hrowne e.symm))).trans (hFc.frozen 1))
                    | go_in)
                  go_roundw
                  case rel =>
                    obtain ⟨f1, f2⟩ := REL.out _ wA hown9 hgA
                    rw [show (il T ++ [(X : Int)]).length = (il T).length + 1 from by simp] at f1 f2
                    refine ⟨_, cnt1, _, keys ++ [x], f1, by rw [HTN.out]; exact f2, ?_, by simp; omega, fun y => ?_, fun y hy => ?_⟩
                    · exact List.nodup_append.2 ⟨HND.out, by simp, fun a ha b hb e => by
                        rw [List.mem_singleton] at hb
                        subst hb; subst e
                        exact HXC.out.2 ha⟩
                    · rw [HL.out y]
                      by_cases hyx : y = x
                      · subst hyx
                        simp [Lit.sameKey, HXC.out.1]
                      · have h1 : (Lit.int .i64 y).sameKey (.int .i64 x) = false := by simp [Lit.sameKey, hyx]
                        rw [h1]
                        simp [hyx]
                    · rcases List.mem_append.1 hy with h | h
                      · exact HKC.out y h
                      · rw [List.mem_singleton] at h
                        subst h
                        exact HXC.out.1
                  case measure => 
                    obtain ⟨f1, f2⟩ := REL.out _ wA hown9 hgA
                    rw [show (il T ++ [(X : Int)]).length = (il T).length + 1 from by simp] at f1 f2
                    rw [f1.left_eq]; exact MEA.out
        · obtain rfl : k = m := by omega
          go_upto_region 26 with (fail)
          obtain ⟨hBw, hB0, hB1, hO⟩ := hF
          have hts12 : ts.length ≤ 12 := by rw [hts.length_eq]; exact HT.out
          have q1 : wr.cell? ⟨w.heap.size + 1, 1, none⟩ = some v := (hB1.cell 1).trans rfl
          have SO := hid (sort_any (w.heap.size + 2) v ts wr hO hts12)
          clear hmm
          go_upto_region 27 with (go_at_call 42; refine SO.out.mono ?_; rintro e w5 ⟨rfl, ho5, hg5⟩)
          have hb5 : Below w.heap.size w w5 := hBw.grown hg5 hBw.size (fun k hk => by have := own_base hO k hk; omega)
          have hB05 := hB0.grown hg5 (fun e => by have := own_base hO _ e.symm; omega)
          have hB15 := hB1.grown hg5 (fun e => by have := own_base hO _ e.symm; omega)
          rw [sortedL_of_perm hts] at ho5
          have hR5 : Kd.R (Kd.int .u64) 48 w5 w.heap.size (fun k => w.heap.size + 2 ≤ k) v (il (sortedL (testsUpto l k))) := by
            have hl5 : ts.length = (il (sortedL (testsUpto l k))).length := by rw [il_length, (sortedL_permF _).length_eq, hts.length_eq]
            rw [hl5] at ho5
            exact Kd.R_of_own (enc := Value.int .u64) (by simpa [encs, nums] using own_weaken ho5 (Nat.le_add_right _ 2)) (fun k hk => own_base ho5 k hk)
          have CH := hid (Pd.disjunct_checked.calls q l.length (fun k => w.heap.size + 2 ≤ k) v (il (sortedL (testsUpto l k))) d e r1 r2 r3 r4 r5 w w5 hb5 hR5 HK.out)
          obtain ⟨A5, c5, hv5⟩ := own_slice ho5
          have s0 : w5.cell? ⟨w.heap.size + 1, 0, none⟩ = some (.int .i64 l.length) := (hB15.cell 0).trans rfl
          have s1 : w5.cell? ⟨w.heap.size + 1, 1, none⟩ = some v := (hB15.cell 1).trans rfl
          have s2 : w5.cell? ⟨w.heap.size + 1, 2, none⟩ = some (.int .i64 d) := (hB15.cell 2).trans rfl
          have s3 : w5.cell? ⟨w.heap.size + 1, 3, none⟩ = some (.int .i64 e) := (hB15.cell 3).trans rfl
          clear hR5 ho5 hg5 SO q1 hO hB1 hB0 hBw
          subst hv5
          have KP := hid (fun (w6 : World) (h : Kept w5 w6 fun k_ => w.heap.size + 2 ≤ k_) => (show Blk w6 w.heap.size 30 #[.int .i64 0, .slice none 0 0, .int .i64 0, .int .i64 0] from (h.2 w.heap.size hB05.lt (by omega)).trans hB05))
          have hz5 : w.heap.size < w5.heap.size := hB05.lt
          go_wp2_with (first
            | (go_at_call 40; refine CH.out.mono ?_; rintro e w6 ⟨v1, rfl, hR6, hb6, hk6⟩
               have hB6 := KP.out w6 hk6
               have p0 : w6.cell? ⟨w.heap.size, 0, none⟩ = some (.int .i64 0) := (hB6.cell 0).trans rfl
               have p1 : w6.cell? ⟨w.heap.size, 1, none⟩ = some (.slice none 0 0) := (hB6.cell 1).trans rfl
               have p2 : w6.cell? ⟨w.heap.size, 2, none⟩ = some (.int .i64 0) := (hB6.cell 2).trans rfl
               have p3 : w6.cell? ⟨w.heap.size, 3, none⟩ = some (.int .i64 0) := (hB6.cell 3).trans rfl
               have f0 := hB6.frozen 0
               have f1 := hB6.frozen 1
               have f2 := hB6.frozen 2
               have f3 := hB6.frozen 3
               obtain ⟨A6, c6, hv6⟩ := Kd.R_slice hR6
               subst hv6)
            | go_in)
          have hne : ∀ k, (w.heap.size + 2 ≤ k ∨ w5.heap.size ≤ k) → k ≠ w.heap.size := fun k hk e => by omega
          refine bodyPost_ret (v := .tuple #[.agg #[.int .i64 r1, .slice A6 r2.length c6, .int .i64 r3, .int .i64 r4], .int .i64 r5]) (by simp [results, Tryd.results30, go_sem, hu, p0, p1, p2, p3]) rfl
            ⟨_, rfl, Kd.R_mono (Kd.R_far (p := ⟨w.heap.size, 3, none⟩) (Kd.R_far (p := ⟨w.heap.size, 2, none⟩) (Kd.R_far (p := ⟨w.heap.size, 1, none⟩) (Kd.R_far (p := ⟨w.heap.size, 0, none⟩) hR6 hne _) hne _) hne _) hne _) (fun _ _ => trivial), (((hb6.setCell (by exact Nat.le_refl _) _).setCell (by exact Nat.le_refl _) _).setCell (by exact Nat.le_refl _) _).setCell (by exact Nat.le_refl _) _⟩
end Go.Proofs.YtmfmlfaglemgfaaDoor


namespace Go.Proofs.YtmfmlfaglemgfaaDoor
set_option linter.unusedSimpArgs false
set_option linter.unusedVariables false
open Go.RowKit Go.Lib Go.Shelf Go.Proofs.YtmfmlfaglemgfaaDoorW.PrintWords
attribute [local go_sem] Oper.semAt_some
theorem R_weaken {w : World} {base base' T : Nat} {ok : Nat → Prop} {v : Value} {xs : List Int} (h : Kd.R (Kd.int .u64) T w base ok v xs) (hb : base' ≤ base) : Kd.R (Kd.int .u64) T w base' ok v xs :=
  Kd.R_of_own (enc := Value.int .u64) (own_weaken (Kd.own_of_R (enc := Value.int .u64) h) hb) h.1
set_option maxHeartbeats 4000000 in
set_option maxRecDepth 100000 in
theorem fwLaw_any (A : Option Addr) (n c : Nat) (d e : Int) (w : World) (r1 : Int) (r2 : List Int) (r3 r4 r5 : Int)
    (hF : ∀ W, Below w.heap.size w W → Calls Tryd.prog 30 #[.slice A n c, .int .i64 d, .int .i64 e] W fun e' w' => ∃ v, e' = .returned (.tuple #[.agg #[.int .i64 r1, v, .int .i64 r3, .int .i64 r4], .int .i64 r5]) ∧ Kd.R (Kd.int .u64) 48 w' W.heap.size (fun _ => True) v r2 ∧ Below W.heap.size W w') :
    Calls Tryd.prog 14 #[.slice A n c, .int .i64 d, .int .i64 e] w fun e' w' => ∃ v, e' = .returned (.agg #[.int .i64 r1, v, .int .i64 r3, .int .i64 r4, .int .i64 r5]) ∧ Kd.R (Kd.int .u64) 48 w' w.heap.size (fun _ => True) v r2 ∧ Below w.heap.size w w' := by
  have hu := Tryd.underlying30
  have hug := Tryd.underlying42
  have HF := hid hF
  clear hF
  go_enter Tryd.func14, Tryd.ntmps14
  go_upto_region 1 with (fail)
  obtain ⟨w1, hw1⟩ : ∃ w1, w.alloc (.cells #[.int .i64 0, .slice none 0 0, .int .i64 0, .int .i64 0, .int .i64 0] 42) = w1 := ⟨_, rfl⟩
  have hb1 : Below w.heap.size w w1 := by rw [← hw1]; exact below_alloc (Below.refl _ _) _
  have hp1 : Blk w1 w.heap.size 42 #[.int .i64 0, .slice none 0 0, .int .i64 0, .int .i64 0, .int .i64 0] := by rw [← hw1]; exact Blk.new _ _ _
  have hz1 : w1.heap.size = w.heap.size + 1 := by rw [← hw1]; simp
  rw [hw1]
  clear hw1
  go_upto_region 2 with (go_at_call 30; refine (HF.out _ hb1).mono ?_; rintro e w2 ⟨v, rfl, hR, hb2⟩; obtain ⟨A2, c2, hv2⟩ := Kd.R_slice hR; subst hv2)
  obtain ⟨w3, hw3⟩ : ∃ w3, w2.alloc (.cells #[.int .i64 r1, .slice A2 r2.length c2, .int .i64 r3, .int .i64 r4] 30) = w3 := ⟨_, rfl⟩
  have hp3 : Blk w3 w2.heap.size 30 #[.int .i64 r1, .slice A2 r2.length c2, .int .i64 r3, .int .i64 r4] := by rw [← hw3]; exact Blk.new _ _ _
  have hp13 : Blk w3 w.heap.size 42 #[.int .i64 0, .slice none 0 0, .int .i64 0, .int .i64 0, .int .i64 0] := by rw [← hw3]; exact (hp1.below hb2 (by omega)).alloc _
  have hb3 : Below w.heap.size w w3 := by rw [← hw3]; exact below_alloc (below_then hb1 hb1.size hb2) _
  have hR3 : Kd.R (Kd.int .u64) 48 w3 w1.heap.size (fun _ => True) (.slice A2 r2.length c2) r2 := by rw [← hw3]; exact Kd.R_alloc hR _
  rw [hw3]
  clear hw3
  have c0 : w3.cell? ⟨w2.heap.size, 0, none⟩ = some (.int .i64 r1) := (hp3.cell 0).trans rfl
  have c1 : w3.cell? ⟨w2.heap.size, 1, none⟩ = some (.slice A2 r2.length c2) := (hp3.cell 1).trans rfl
  have c2' : w3.cell? ⟨w2.heap.size, 2, none⟩ = some (.int .i64 r3) := (hp3.cell 2).trans rfl
  have c3 : w3.cell? ⟨w2.heap.size, 3, none⟩ = some (.int .i64 r4) := (hp3.cell 3).trans rfl
  have p0 : w3.cell? ⟨w.heap.size, 0, none⟩ = some (.int .i64 0) := (hp13.cell 0).trans rfl
  have p1 : w3.cell? ⟨w.heap.size, 1, none⟩ = some (.slice none 0 0) := (hp13.cell 1).trans rfl
  have p2 : w3.cell? ⟨w.heap.size, 2, none⟩ = some (.int .i64 0) := (hp13.cell 2).trans rfl
  have p3 : w3.cell? ⟨w.heap.size, 3, none⟩ = some (.int .i64 0) := (hp13.cell 3).trans rfl
  have p4 : w3.cell? ⟨w.heap.size, 4, none⟩ = some (.int .i64 0) := (hp13.cell 4).trans rfl
  have f0 := hp13.frozen 0
  have f1 := hp13.frozen 1
  have f2 := hp13.frozen 2
  have f3 := hp13.frozen 3
  have f4 := hp13.frozen 4
  have hne : ∀ k, w.heap.size + 1 ≤ k → k ≠ w.heap.size := fun k hk e => by omega
  have hRn := Kd.R_mono (Kd.R_bound hR3) (ok' := fun k => w.heap.size + 1 ≤ k) (fun k hk => by have := hk.2.1; omega)
  go_wp2
  refine bodyPost_ret (v := .agg #[.int .i64 r1, .slice A2 r2.length c2, .int .i64 r3, .int .i64 r4, .int .i64 r5]) (by simp [results, Tryd.results14, go_sem, hu, hug, p0, p1, p2, p3, p4]) rfl
    ⟨_, rfl, Kd.R_mono (Kd.R_far (p := ⟨w.heap.size, 4, none⟩) (Kd.R_far (p := ⟨w.heap.size, 3, none⟩) (Kd.R_far (p := ⟨w.heap.size, 2, none⟩) (Kd.R_far (p := ⟨w.heap.size, 1, none⟩) (Kd.R_far (p := ⟨w.heap.size, 0, none⟩) (R_weaken hRn (by omega)) hne _) hne _) hne _) hne _) hne _) (fun _ _ => trivial), ((((hb3.setCell (by exact Nat.le_refl _) _).setCell (by exact Nat.le_refl _) _).setCell (by exact Nat.le_refl _) _).setCell (by exact Nat.le_refl _) _).setCell (by exact Nat.le_refl _) _⟩
end Go.Proofs.YtmfmlfaglemgfaaDoor


namespace Go.Proofs.YtmfmlfaglemgfaaDoor
set_option linter.unusedSimpArgs false
set_option linter.unusedVariables false
open Go.RowKit Go.Lib Go.Shelf Go.Proofs.YtmfmlfaglemgfaaDoorW.PrintWords
theorem RC_lit3 {w : World} {g t : Nat} {A1 A2 A3 : Option Addr} {c1 c2 c3 : Nat} {x1 x2 x3 : List Int} (h : Blk w g t #[.slice A1 x1.length c1, .slice A2 x2.length c2, .slice A3 x3.length c3])
    (h1 : IC w A1 x1.length x1) (l1 : x1.length ≤ c1) (h2 : IC w A2 x2.length x2) (l2 : x2.length ≤ c2) (h3 : IC w A3 x3.length x3) (l3 : x3.length ≤ c3) : RC w (some ⟨g, 0, none⟩) 3 [x1, x2, x3] :=
  ⟨rfl, by decide, fun _ => ⟨_, rfl, fun j p hj => by
    match j, hj with
    | 0, hj =>
      obtain rfl : x1 = p := by simpa using hj
      exact ⟨[.slice A1 x1.length c1], rfl, ⟨A1, c1, rfl, l1, h1⟩, fun i u hi => by
        match i, hi with
        | 0, hi => obtain rfl : _ = u := by simpa using hi
                   exact (h.cell 0).trans rfl
        | i + 1, hi => simp at hi⟩
    | 1, hj =>
      obtain rfl : x2 = p := by simpa using hj
      exact ⟨[.slice A2 x2.length c2], rfl, ⟨A2, c2, rfl, l2, h2⟩, fun i u hi => by
        match i, hi with
        | 0, hi => obtain rfl : _ = u := by simpa using hi
                   exact (h.cell 1).trans rfl
        | i + 1, hi => simp at hi⟩
    | 2, hj =>
      obtain rfl : x3 = p := by simpa using hj
      exact ⟨[.slice A3 x3.length c3], rfl, ⟨A3, c3, rfl, l3, h3⟩, fun i u hi => by
        match i, hi with
        | 0, hi => obtain rfl : _ = u := by simpa using hi
                   exact (h.cell 2).trans rfl
        | i + 1, hi => simp at hi⟩
    | j + 3, hj => simp at hj⟩⟩
theorem RC_lit2 {w : World} {g t : Nat} {A1 A2 : Option Addr} {c1 c2 : Nat} {x1 x2 : List Int} (h : Blk w g t #[.slice A1 x1.length c1, .slice A2 x2.length c2])
    (h1 : IC w A1 x1.length x1) (l1 : x1.length ≤ c1) (h2 : IC w A2 x2.length x2) (l2 : x2.length ≤ c2) : RC w (some ⟨g, 0, none⟩) 2 [x1, x2] :=
  ⟨rfl, by decide, fun _ => ⟨_, rfl, fun j p hj => by
    match j, hj with
    | 0, hj =>
      obtain rfl : x1 = p := by simpa using hj
      exact ⟨[.slice A1 x1.length c1], rfl, ⟨A1, c1, rfl, l1, h1⟩, fun i u hi => by
        match i, hi with
        | 0, hi => obtain rfl : _ = u := by simpa using hi
                   exact (h.cell 0).trans rfl
        | i + 1, hi => simp at hi⟩
    | 1, hj =>
      obtain rfl : x2 = p := by simpa using hj
      exact ⟨[.slice A2 x2.length c2], rfl, ⟨A2, c2, rfl, l2, h2⟩, fun i u hi => by
        match i, hi with
        | 0, hi => obtain rfl : _ = u := by simpa using hi
                   exact (h.cell 1).trans rfl
        | i + 1, hi => simp at hi⟩
    | j + 2, hj => simp at hj⟩⟩
theorem IC_blk {w : World} {g t : Nat} {xs : List Int} (h : Blk w g t (xs.map (Value.int .i64)).toArray) (hl : xs.length < 2 ^ 40) : IC w (some ⟨g, 0, none⟩) xs.length xs :=
  ⟨rfl, by omega, fun _ => ⟨_, rfl, fun j p hj => ⟨[.int .i64 p], rfl, rfl, fun i u hi => by
    match i, hi with
    | 0, hi => obtain rfl : _ = u := by simpa using hi
               have := h.cell j
               simp only [List.getElem?_toArray, List.getElem?_map, hj, Option.map_some] at this
               rw [show (Kd.int IntKind.i64).sz = 1 from rfl]
               by_cases h0 : j = 0
               · subst h0; simpa [Addr.add] using this
               · simpa [Addr.add, h0] using this
    | i + 1, hi => simp at hi⟩⟩⟩
/-- The literal of the first input, in memory. -/
theorem lit_ok (w : World) : RC ((((w.alloc (.cells #[.int .i64 0, .int .i64 5] 3)).alloc (.cells #[.int .i64 0, .int .i64 6] 3)).alloc (.cells #[.int .i64 1, .int .i64 5] 3)).alloc
    (.cells #[.slice (some ⟨w.heap.size, 0, none⟩) 2 2, .slice (some ⟨w.heap.size + 1, 0, none⟩) 2 2, .slice (some ⟨w.heap.size + 2, 0, none⟩) 2 2] 36)) (some ⟨w.heap.size + 3, 0, none⟩) 3 [[0, 5], [0, 6], [1, 5]] := by
  obtain ⟨w1, hw1⟩ : ∃ w1, w.alloc (.cells #[.int .i64 0, .int .i64 5] 3) = w1 := ⟨_, rfl⟩
  have z1 : w1.heap.size = w.heap.size + 1 := by rw [← hw1]; simp
  have b1 : Blk w1 w.heap.size 3 #[.int .i64 0, .int .i64 5] := by rw [← hw1]; exact Blk.new _ _ _
  rw [hw1]
  obtain ⟨w2, hw2⟩ : ∃ w2, w1.alloc (.cells #[.int .i64 0, .int .i64 6] 3) = w2 := ⟨_, rfl⟩
  have z2 : w2.heap.size = w.heap.size + 2 := by rw [← hw2]; simp [z1]
  have b2 : Blk w2 (w.heap.size + 1) 3 #[.int .i64 0, .int .i64 6] := by rw [← hw2, ← z1]; exact Blk.new _ _ _
  have b1 : Blk w2 w.heap.size 3 #[.int .i64 0, .int .i64 5] := by rw [← hw2]; exact b1.alloc _
  rw [hw2]
  obtain ⟨w3, hw3⟩ : ∃ w3, w2.alloc (.cells #[.int .i64 1, .int .i64 5] 3) = w3 := ⟨_, rfl⟩
  have z3 : w3.heap.size = w.heap.size + 3 := by rw [← hw3]; simp [z2]
  have b3 : Blk w3 (w.heap.size + 2) 3 #[.int .i64 1, .int .i64 5] := by rw [← hw3, ← z2]; exact Blk.new _ _ _
  have b1 : Blk w3 w.heap.size 3 #[.int .i64 0, .int .i64 5] := by rw [← hw3]; exact b1.alloc _
  have b2 : Blk w3 (w.heap.size + 1) 3 #[.int .i64 0, .int .i64 6] := by rw [← hw3]; exact b2.alloc _
  rw [hw3]
  refine RC_lit3 (t := 36) (c1 := 2) (c2 := 2) (c3 := 2) (A1 := some ⟨w.heap.size, 0, none⟩) (A2 := some ⟨w.heap.size + 1, 0, none⟩) (A3 := some ⟨w.heap.size + 2, 0, none⟩) (by rw [← z3]; exact Blk.new _ _ _)
    (IC_blk (xs := [0, 5]) (b1.alloc _) (by decide)) (by decide) (IC_blk (xs := [0, 6]) (b2.alloc _) (by decide)) (by decide) (IC_blk (xs := [1, 5]) (b3.alloc _) (by decide)) (by decide)
/-- The literal of the second input. -/
theorem lit_bad (w : World) : RC (((w.alloc (.cells #[.int .i64 0] 3)).alloc (.cells #[] 3)).alloc
    (.cells #[.slice (some ⟨w.heap.size, 0, none⟩) 1 1, .slice (some ⟨w.heap.size + 1, 0, none⟩) 0 0] 36)) (some ⟨w.heap.size + 2, 0, none⟩) 2 [[0], []] := by
  obtain ⟨w1, hw1⟩ : ∃ w1, w.alloc (.cells #[.int .i64 0] 3) = w1 := ⟨_, rfl⟩
  have z1 : w1.heap.size = w.heap.size + 1 := by rw [← hw1]; simp
  have b1 : Blk w1 w.heap.size 3 #[.int .i64 0] := by rw [← hw1]; exact Blk.new _ _ _
  rw [hw1]
  obtain ⟨w2, hw2⟩ : ∃ w2, w1.alloc (.cells #[] 3) = w2 := ⟨_, rfl⟩
  have z2 : w2.heap.size = w.heap.size + 2 := by rw [← hw2]; simp [z1]
  have b2 : Blk w2 (w.heap.size + 1) 3 #[] := by rw [← hw2, ← z1]; exact Blk.new _ _ _
  have b1 : Blk w2 w.heap.size 3 #[.int .i64 0] := by rw [← hw2]; exact b1.alloc _
  rw [hw2]
  refine RC_lit2 (t := 36) (c1 := 1) (c2 := 0) (A1 := some ⟨w.heap.size, 0, none⟩) (A2 := some ⟨w.heap.size + 1, 0, none⟩) (by rw [← z2]; exact Blk.new _ _ _)
    (IC_blk (xs := [0]) (b1.alloc _) (by decide)) (by decide) (IC_blk (xs := []) (b2.alloc _) (by decide)) (by decide)
theorem fw_ex1 (A : Option Addr) (c : Nat) (w : World) (hC : RC w A 3 [[0, 5], [0, 6], [1, 5]]) :
    Calls Tryd.prog 14 #[.slice A 3 c, .int .i64 1, .int .i64 0] w fun e' w' => ∃ v, e' = .returned (.agg #[.int .i64 3, v, .int .i64 1, .int .i64 0, .int .i64 0]) ∧ Kd.R (Kd.int .u64) 48 w' w.heap.size (fun _ => True) v [2, 3, 4, 5] ∧ Below w.heap.size w w' :=
  fwLaw_any A 3 c 1 0 w 3 [2, 3, 4, 5] 1 0 0 fun W hW => fw_any A c [[0, 5], [0, 6], [1, 5]] 1 0 2 W (Kd.C_below hC hW) (by decide) (by decide) (by decide) (by decide) (by decide) (by decide) 40 3 [2, 3, 4, 5] 1 0 0 (by kernel_rfl)
theorem fw_ex2 (A : Option Addr) (c : Nat) (w : World) (hC : RC w A 2 [[0], []]) :
    Calls Tryd.prog 14 #[.slice A 2 c, .int .i64 0, .int .i64 0] w fun e' w' => ∃ v, e' = .returned (.agg #[.int .i64 0, v, .int .i64 0, .int .i64 0, .int .i64 1]) ∧ Kd.R (Kd.int .u64) 48 w' w.heap.size (fun _ => True) v [] ∧ Below w.heap.size w w' :=
  fwLaw_any A 2 c 0 0 w 0 [] 0 0 1 fun W hW => (fw_bad A c [[0], []] 0 0 W (Kd.C_below hC hW) (by decide) (by decide) (by decide)).mono fun e w' ⟨h1, h2⟩ => ⟨.slice none 0 0, h1, Kd.R_nil _ _ _ _ _, h2⟩
end Go.Proofs.YtmfmlfaglemgfaaDoor
