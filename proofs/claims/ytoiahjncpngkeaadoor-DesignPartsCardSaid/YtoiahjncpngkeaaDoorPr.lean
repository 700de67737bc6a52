/- slices.Clone, slices.IndexFunc and slices.DeleteFunc at []uint64, for the function that incidence.part hands them, walked. -/
/- incidence.made, walked for the function that incidence.part hands it. -/
/- incidence.part, Derived and Residual, walked. -/
import Derived.Test.YtoiahjncpngkeaaDoorCo
import Derived.Lib.SliceRun
import Derived.Laws.IdiomCopy
import Derived.Lib.LazyBuf
namespace Go.Proofs.YtoiahjncpngkeaaDoor
set_option linter.unusedSimpArgs false
set_option linter.unusedVariables false
open Go.RowKit Go.Lib Go.Proofs.YtoiahjncpngkeaaDoorW.PrintWords
attribute [local go_sem] Oper.semAt_some

/-- What is granted of the function value: it answers del, and leaves memory as it is. -/
def Del (w : World) (row : Option Nat) (p1 p2 : Addr) (bs : List Nat) (del : Nat → Bool) : Prop :=
  ∀ b ∈ bs, ∀ W, w.grownBy W row → Calls Tryd.prog 68 #[.int .u64 b, .pointer (some p1), .pointer (some p2)] W fun e W' => e = .returned (.bool (del b)) ∧ ∃ q, W' = W.drewN q
set_option maxHeartbeats 1000000 in
theorem index_nil (p1 p2 : Addr) (w : World) : Calls Tryd.prog 75 #[.slice none 0 0, .func (.func 68) #[] #[.pointer (some p1), .pointer (some p2)]] w fun e w' => e = .returned (.int .i64 (-1)) ∧ w' = w := by
  go_enter Tryd.func75, Tryd.ntmps75
  go_wp2
  go_loopw [8] (fun i wr => wr = w ∧ i = .int .i64 0) (fun i _ => 0)
  case atStart => exact ⟨rfl, rfl⟩
  case round =>
    obtain ⟨rfl, rfl⟩ := hrel
    go_wp2
    go_ret
    exact ⟨rfl, rfl⟩
/-- What IndexFunc finds. -/
def IdxP (del : Nat → Bool) (bs : List Nat) (r : Int) : Prop := (r = -1 ∧ ∀ b ∈ bs, del b = false) ∨ ∃ i : Nat, r = (i : Int) ∧ i < bs.length ∧ del (bs.getD i 0) = true ∧ ∀ b ∈ bs.take i, del b = false
set_option maxHeartbeats 2000000 in
theorem index_any (base g cap : Nat) (bs : List Nat) (del : Nat → Bool) (p1 p2 : Addr) (w : World) (ho : w.ownsRow base 60 1 (.slice (some ⟨g, 0, none⟩) bs.length cap) bs.length (nums .u64 (il bs))) (hn : bs.length < 2 ^ 40) (hq : Del w (some g) p1 p2 bs del) :
    Calls Tryd.prog 75 #[.slice (some ⟨g, 0, none⟩) bs.length cap, .func (.func 68) #[] #[.pointer (some p1), .pointer (some p2)]] w fun e w' =>
      (∃ r, e = .returned (.int .i64 r) ∧ Hid (IdxP del bs r)) ∧ ∃ q, w' = w.drewN q := by
  have HQ := hid hq
  clear hq
  have HO := hid ho
  clear ho
  go_enter Tryd.func75, Tryd.ntmps75
  go_wp2
  go_loopw [8] (fun i wr => Hid (∃ q, wr = w.drewN q) ∧ ∃ k : Nat, k ≤ bs.length ∧ i = .int .i64 k ∧ Hid (∀ b ∈ bs.take k, del b = false)) (fun i _ => bs.length - (intOf i).toNat)
  case atStart => exact ⟨⟨0, rfl⟩, 0, by omega, rfl, (show ∀ b ∈ _, _ from by simp)⟩
  case round =>
    obtain ⟨HW, k, hk, rfl, HA⟩ := hrel
    by_cases hlt : k < bs.length
    · have hcell : wr.cell? ⟨g, k, none⟩ = some (.int .u64 ((bs.getD k 0 : Nat) : Int)) := by
        obtain ⟨q, hq⟩ := HW.out
        rw [hq]; exact (own_atU HO.out hlt).1
      have hmem := hid (getD_mem hlt)
      have hgr : Hid (w.grownBy wr (some g)) := by
        obtain ⟨q, hq⟩ := HW.out
        rw [hq]; exact grown_drewN' (World.grownBy.refl w _) q
      have htk := hid (show bs.take (k + 1) = bs.take k ++ [bs.getD k 0] from by
        rw [List.take_succ_eq_append_getElem hlt]; simp [List.getD_eq_getElem?_getD, hlt])
      obtain ⟨b, hb⟩ : ∃ b, bs.getD k 0 = b := ⟨_, rfl⟩
      rw [hb] at hcell hmem htk
      have HB := hid hb
      clear hb
      cases hd : del b with
      | false =>
        have HD := hid hd
        clear hd
        go_wp2_with (go_at_call 68; refine (HQ.out b hmem.out _ hgr.out).mono ?_; rintro e W' ⟨rfl, q2, hq2⟩; rw [HD.out]; have HW2 := hid hq2; clear hq2)
        go_round
        case rel =>
          refine ⟨?_, k + 1, by omega, by go_num, (show ∀ x ∈ _, _ from ?_)⟩
          · obtain ⟨q, hq⟩ := HW.out
            exact ⟨q + q2, by rw [HW2.out, hq]; simp⟩
          · rw [htk.out]
            intro x hx
            rcases List.mem_append.1 hx with hx | hx
            · exact HA.out x hx
            · rw [List.mem_singleton.1 hx]; exact HD.out
        case measure => simp [intOf]; omega
      | true =>
        have HD := hid hd
        clear hd
        go_wp2_with (go_at_call 68; refine (HQ.out b hmem.out _ hgr.out).mono ?_; rintro e W' ⟨rfl, q2, hq2⟩; rw [HD.out]; have HW2 := hid hq2; clear hq2)
        go_ret
        refine ⟨⟨_, rfl, .inr ⟨k, rfl, hlt, by rw [HB.out]; exact HD.out, HA.out⟩⟩, ?_⟩
        obtain ⟨q, hq⟩ := HW.out
        exact ⟨q + q2, by rw [HW2.out, hq]; simp⟩
    · go_wp2
      go_ret
      exact ⟨⟨_, rfl, .inl ⟨rfl, by have := HA.out; rwa [List.take_of_length_le (by omega)] at this⟩⟩, HW.out⟩
set_option maxHeartbeats 1000000 in
theorem delete_nil (p1 p2 : Addr) (w : World) : Calls Tryd.prog 66 #[.slice none 0 0, .func (.func 68) #[] #[.pointer (some p1), .pointer (some p2)]] w fun e w' => e = .returned (.slice none 0 0) ∧ w' = w := by
  go_enter Tryd.func66, Tryd.ntmps66
  go_wp2_with (go_at_call 75; refine (index_nil _ _ _).mono ?_; rintro e w' ⟨rfl, rfl⟩)
  go_ret
  exact ⟨rfl, rfl⟩
theorem grown_setCells (b : Nat) : ∀ (vs : List Value) (o : Nat) (w : World), w.grownBy (w.setCells b o vs) (some b)
  | [], _, w => World.grownBy.refl w _
  | v :: vs, o, w => grownBy_trans (grownBy_setCell w b o v) (grown_setCells b vs (o + 1) (w.setCell ⟨b, o, none⟩ v))
/-- A row as DeleteFunc has it half way: its first i elements are those that stay, from j on it is as it was. -/
def Half (bs : List Nat) (del : Nat → Bool) (i j : Nat) (xs : List Nat) : Prop := i < j ∧ j ≤ bs.length ∧ xs.length = bs.length ∧ xs.take i = (bs.take j).filter (fun b => !del b) ∧ xs.drop j = bs.drop j
theorem half_start {bs : List Nat} {del : Nat → Bool} {i : Nat} (hi : i < bs.length) (hd : del (bs.getD i 0) = true) (hb : ∀ b ∈ bs.take i, del b = false) : Half bs del i (i + 1) bs := by
  refine ⟨by omega, by omega, rfl, ?_, rfl⟩
  rw [List.take_succ_eq_append_getElem hi, List.filter_append]
  have e : bs[i] = bs.getD i 0 := by simp [List.getD_eq_getElem?_getD, hi]
  rw [e, List.filter_eq_self.2 (fun b hm => by rw [hb b hm]; rfl), List.filter_cons_of_neg (by rw [hd]; decide)]
  simp
theorem half_at {bs : List Nat} {del : Nat → Bool} {i j : Nat} {xs : List Nat} (h : Half bs del i j xs) (hj : j < bs.length) : xs.getD j 0 = bs.getD j 0 := by
  have h1 := h.2.2.1; have h2 := h.2.2.2.2
  have := congrArg (fun l => l.getD 0 0) h2
  simpa [List.getD_eq_getElem?_getD] using this
theorem half_skip {bs : List Nat} {del : Nat → Bool} {i j : Nat} {xs : List Nat} (h : Half bs del i j xs) (hj : j < bs.length) (hd : del (bs.getD j 0) = true) : Half bs del i (j + 1) xs := by
  obtain ⟨h1, h2, h3, h4, h5⟩ := h
  have e : bs[j] = bs.getD j 0 := by simp [List.getD_eq_getElem?_getD, hj]
  refine ⟨by omega, by omega, h3, ?_, ?_⟩
  · rw [h4, List.take_succ_eq_append_getElem hj, List.filter_append, e, List.filter_cons_of_neg (by rw [hd]; decide)]; simp
  · have := congrArg (List.drop 1) h5
    simpa [Nat.add_comm] using this
theorem half_keep {bs : List Nat} {del : Nat → Bool} {i j : Nat} {xs : List Nat} (h : Half bs del i j xs) (hj : j < bs.length) (hd : del (bs.getD j 0) = false) : Half bs del (i + 1) (j + 1) (xs.set i (bs.getD j 0)) := by
  obtain ⟨h1, h2, h3, h4, h5⟩ := h
  have e : bs[j] = bs.getD j 0 := by simp [List.getD_eq_getElem?_getD, hj]
  refine ⟨by omega, by omega, by simp [h3], ?_, ?_⟩
  · rw [List.take_succ_eq_append_getElem (by simp; omega), List.take_set_of_le (Nat.le_refl _), h4, List.take_succ_eq_append_getElem hj, List.filter_append, e, List.filter_cons_of_pos (by rw [hd]; rfl)]; simp
  · rw [List.drop_set_of_lt (by omega)]
    have := congrArg (List.drop 1) h5
    simpa [Nat.add_comm] using this
theorem own_nlc_take {w : World} {base g n cap m : Nat} {bs : List Nat} (ho : w.ownsRow base 60 1 (.slice (some ⟨g, 0, none⟩) n cap) n (nums .u64 (il bs))) (hb : ∀ b ∈ bs, b < 2 ^ 64) (hm : m ≤ n) : BlC w (some ⟨g, 0, none⟩) m (bs.take m) := by
  obtain ⟨A, c, e, _, _, hB⟩ := own_BlC ho hb
  injection e with e1 e2 e3
  subst e1
  exact hB.take hm
theorem zero_u64 : ∀ w, (zeroValue 60).run Tryd.prog w = .ok (.int .u64 0) w := by
  obtain ⟨i0, hi0, hz0, hz1, hz2⟩ := info_parts infoU
  intro w
  simp [zeroValue, typeInfo, hi0, hz0]
set_option maxHeartbeats 4000000 in
set_option maxRecDepth 100000 in
theorem delete_any (base g cap : Nat) (bs : List Nat) (del : Nat → Bool) (p1 p2 : Addr) (w : World) (ho : w.ownsRow base 60 1 (.slice (some ⟨g, 0, none⟩) bs.length cap) bs.length (nums .u64 (il bs))) (hb64 : ∀ b ∈ bs, b < 2 ^ 64) (hn : bs.length < 2 ^ 40) (hcap : bs.length ≤ cap) (hq : Del w (some g) p1 p2 bs del) :
    Calls Tryd.prog 66 #[.slice (some ⟨g, 0, none⟩) bs.length cap, .func (.func 68) #[] #[.pointer (some p1), .pointer (some p2)]] w fun e w' =>
      e = .returned (.slice (some ⟨g, 0, none⟩) (bs.filter fun b => !del b).length cap) ∧ w.grownBy w' (some g) ∧ BlC w' (some ⟨g, 0, none⟩) (bs.filter fun b => !del b).length (bs.filter fun b => !del b) := by
  have HI := hid (index_any base g cap bs del p1 p2 w ho hn hq)
  have HQ := hid hq
  clear hq
  have HO := hid ho
  clear ho
  have H64 := hid hb64
  clear hb64
  go_enter Tryd.func66, Tryd.ntmps66
  go_wp2_with fail
  go_at_call 75
  refine HI.out.mono ?_
  rintro e w' ⟨⟨r, rfl, HP⟩, hqw⟩
  have HW := hid hqw
  clear hqw
  rcases HP.out with ⟨h1, hall⟩ | ⟨i0, h1, hi0, hd0, hb0⟩
  · subst h1
    have HALL := hid hall
    clear hall
    go_wp2
    go_ret
    have e : (bs.filter fun b => !del b) = bs := List.filter_eq_self.2 fun b hm => by rw [HALL.out b hm]; rfl
    rw [e]
    obtain ⟨q, hq⟩ := HW.out
    refine ⟨rfl, by rw [hq]; exact grown_drewN' (World.grownBy.refl w _) q, ?_⟩
    have := own_nlc_take HO.out H64.out (Nat.le_refl _)
    rw [List.take_length] at this
    rw [hq]; exact this.drewN q
  · subst h1
    have HST := hid (half_start hi0 hd0 hb0)
    have hne : ((i0 : Int) == -1) = false := by simp <;> omega
    clear hd0 hb0
    have HG0 : Hid (w.grownBy w' (some g)) := by
      obtain ⟨q, hq⟩ := HW.out
      rw [hq]; exact grown_drewN' (World.grownBy.refl w _) q
    have HO0 : Hid (w'.ownsRow base 60 1 (.slice (some ⟨g, 0, none⟩) bs.length cap) bs.length (nums .u64 (il bs))) := by
      obtain ⟨q, hq⟩ := HW.out
      rw [hq]; exact HO.out
    clear HW
    go_wp2
    go_loopw [5, 6] (fun iv jv wr => Hid (w.grownBy wr (some g)) ∧ ∃ (i j : Nat) (xs : List Nat), i < j ∧ j ≤ bs.length ∧ iv = .int .i64 i ∧ jv = .int .i64 j ∧ Hid (Half bs del i j xs) ∧ Hid (∀ x ∈ xs, x < 2 ^ 64) ∧
      Hid (wr.ownsRow base 60 1 (.slice (some ⟨g, 0, none⟩) bs.length cap) bs.length (nums .u64 (il xs)))) (fun _ jv _ => bs.length - (intOf jv).toNat)
    case atStart => exact ⟨HG0, i0, i0 + 1, bs, by omega, by omega, rfl, by go_num, HST, H64, HO0⟩
    case round =>
      obtain ⟨HG, i, j, xs, hij, hj, rfl, rfl, HH, HX, HR⟩ := hrel
      clear HG0 HO0
      by_cases hlt : j < bs.length
      · obtain ⟨cj, _⟩ := own_atU HR.out hlt
        obtain ⟨ci, fi⟩ := own_atU HR.out (show i < bs.length by omega)
        rw [half_at HH.out hlt] at cj
        have hmem := hid (getD_mem hlt)
        obtain ⟨b, hb⟩ : ∃ b, bs.getD j 0 = b := ⟨_, rfl⟩
        obtain ⟨old, hold⟩ : ∃ b, xs.getD i 0 = b := ⟨_, rfl⟩
        rw [hb] at cj hmem
        rw [hold] at ci
        have HB := hid hb
        clear hb hold
        cases hd : del b with
        | true =>
          have HD := hid hd
          clear hd
          go_wp2_with (go_at_call 68; refine (HQ.out b hmem.out _ HG.out).mono ?_; rintro e W' ⟨rfl, q2, hq2⟩; rw [HD.out]; have HW2 := hid hq2; clear hq2)
          go_round
          case rel => exact ⟨by rw [HW2.out]; exact grown_drewN' HG.out _, i, j + 1, xs, by omega, by omega, rfl, by go_num, half_skip HH.out hlt (by rw [HB.out]; exact HD.out), HX, by rw [HW2.out]; exact HR.out⟩
          case measure => simp [intOf]; omega
        | false =>
          have HD := hid hd
          clear hd
          go_wp2_with (
            go_at_call 68
            refine (HQ.out b hmem.out _ HG.out).mono ?_
            rintro e W' ⟨rfl, q2, hq2⟩
            rw [HD.out]
            have ci2 : W'.cell? ⟨g, i, none⟩ = some (.int .u64 old) := by rw [hq2]; exact ci
            have fi2 : W'.frozen? ⟨g, i, none⟩ = false := by rw [hq2]; exact fi
            have HR2 : Hid (W'.ownsRow base 60 1 (.slice (some ⟨g, 0, none⟩) bs.length cap) bs.length (nums .u64 (il xs))) := by rw [hq2]; exact HR.out
            have HG2 : Hid (w.grownBy W' (some g)) := by rw [hq2]; exact grown_drewN' HG.out _
            clear hq2)
          go_round
          case rel =>
            obtain ⟨s1, s2⟩ := own_storeU HR2.out i b
            refine ⟨grownBy_trans HG2.out s2, i + 1, j + 1, xs.set i b, by omega, by omega, by go_num, by go_num, by rw [← HB.out]; exact half_keep HH.out hlt (by rw [HB.out]; exact HD.out), (show ∀ x ∈ _, _ from ?_), s1⟩
            intro x hx
            rcases List.mem_or_eq_of_mem_set hx with hx | rfl
            · exact HX.out x hx
            · exact H64.out _ hmem.out
          case measure => simp [intOf]; omega
      · have hjn : j = bs.length := by omega
        have hin : i < bs.length := by omega
        have hcl : ∀ ty, (Builtin.clear_ #[29] ty #[.slice (some ⟨g, i, none⟩) (bs.length - i) (cap - i)]).run Tryd.prog wr = .ok (.tuple #[]) (wr.setCells g i (List.replicate (bs.length - i) (.int .u64 0))) :=
          fun ty => Lib.run_clear_slice wr _ _ ty _ Tryd.underlying29 zero_u64 rfl rfl g i _ _ (by omega) (fun t ht => by rw [(own_atU HR.out (show i + t < bs.length by omega)).1]; rfl) (fun t ht => (own_atU HR.out (show i + t < bs.length by omega)).2)
        have hnc : ¬ cap = i := by omega
        go_wp2
        go_ret
        have hH := HH.out
        have hlen : (bs.filter fun b => !del b) = xs.take i := by rw [hH.2.2.2.1, hjn, List.take_length]
        have hl2 : (xs.take i).length = i := by rw [List.length_take, hH.2.2.1]; omega
        rw [hlen, hl2]
        refine ⟨rfl, grownBy_trans HG.out (grown_setCells _ _ _ _), ?_⟩
        refine ⟨hl2.symm, ?_, fun b hb => HX.out b (List.mem_of_mem_take hb)⟩
        have e2 : i = (il (xs.take i)).length := by rw [il_length, hl2]
        conv => arg 4; rw [e2]
        refine Kd.C_of_reads (d := 0) ⟨rfl, by rw [← e2]; omega, fun _ => ⟨_, rfl, fun k hk => ?_⟩⟩
        rw [← e2] at hk
        have hc := (own_atU HR.out (show k < bs.length by omega)).1
        have e3 : (il (xs.take i)).getD k 0 = ((xs.getD k 0 : Nat) : Int) := by
          have hkl : k < xs.length := by have := hH.2.2.1; omega
          simp [il, List.getD_eq_getElem?_getD, List.getElem?_take, hk, hkl]
        rw [show (⟨g, 0, none⟩ : Addr).add k = ⟨g, k, none⟩ from by simp [go_sem], World.cell?_setCells_out _ _ _ _ _ (fun _ _ => .inl (by show k < i; omega)), hc]
        exact congrArg (fun z => some (Value.int .u64 z)) e3.symm
end Go.Proofs.YtoiahjncpngkeaaDoor


namespace Go.Proofs.YtoiahjncpngkeaaDoor
set_option linter.unusedSimpArgs false
set_option linter.unusedVariables false
open Go.RowKit Go.Lib Go.Proofs.YtoiahjncpngkeaaDoorW.PrintWords
attribute [local go_sem] Oper.semAt_some

set_option maxHeartbeats 2000000 in
set_option maxRecDepth 100000 in
theorem made_pt (V : Int) (A : Option Addr) (n c : Nat) (bs : List Nat) (gf : Nat → Nat) (pa : Addr) (w : World) (hB : BlC w A n bs) (hn : n ≤ 12)
    (hf : ∀ b ∈ bs, ∀ W, Below w.heap.size w W → Calls Tryd.prog 70 #[.int .u64 b, .pointer (some pa)] W fun e W' => e = .returned (.int .u64 ((gf b : Nat) : Int)) ∧ ∃ q, W' = W.drewN q) :
    Calls Tryd.prog 49 #[.int .i64 V, .slice A n c, .func (.func 70) #[] #[.pointer (some pa)]] w fun e w' =>
      ∃ v, e = .returned (.agg #[.int .i64 V, v]) ∧ w'.ownsRow w.heap.size 60 1 v n (nums .u64 (il (sortedL (bs.map gf)))) ∧ Below w.heap.size w w' := by
  have hu := Tryd.underlying31
  obtain ⟨i0, hi0, hz0, hz1, hz2⟩ := info_parts infoU
  obtain ⟨hn1, _⟩ := id hB
  subst hn1
  have HF := hid hf
  clear hf
  go_enter Tryd.func49, Tryd.ntmps49
  go_wp2
  obtain ⟨w0, hw0⟩ : ∃ w0, ((w.alloc (.cells #[.int .i64 0, .slice none 0 0] 31)).alloc (.cells #[.int .i64 V, .slice none 0 0] 31)) = w0 := ⟨_, rfl⟩
  have hX0 : Blk w0 w.heap.size 31 #[.int .i64 0, .slice none 0 0] := by rw [← hw0]; exact (Blk.new _ _ _).alloc _
  have hY0 : Blk w0 (w.heap.size + 1) 31 #[.int .i64 V, .slice none 0 0] := by
    rw [← hw0]
    have := Blk.new (w.alloc (.cells #[.int .i64 0, .slice none 0 0] 31)) 31 #[.int .i64 V, .slice none 0 0]
    simpa using this
  have hb0 : Below w.heap.size w w0 := by rw [← hw0]; exact below_alloc (below_alloc (Below.refl _ _) _) _
  rw [hw0]
  clear hw0
  go_loopw [14] (fun i wr => Below w.heap.size w wr ∧ ∃ (k : Nat) (v : Value), k ≤ bs.length ∧ i = .int .i64 k ∧ wr.ownsRow w.heap.size 60 1 v k (nums .u64 (il ((bs.take k).map gf))) ∧
    Blk wr w.heap.size 31 #[.int .i64 0, .slice none 0 0] ∧ Blk wr (w.heap.size + 1) 31 #[.int .i64 V, v]) (fun i _ => bs.length - (intOf i).toNat)
  case atStart => exact ⟨hb0, 0, .slice none 0 0, by omega, rfl, ⟨by simp [nums, il], .inl ⟨rfl, by simp [nums, il]⟩⟩, hX0, hY0⟩
  case round =>
    obtain ⟨hb, k, v, hk, rfl, ho, hX, hY⟩ := hrel
    clear hX0 hY0 hb0
    by_cases hlt : k < bs.length
    · obtain ⟨ad, b, e, hc, hb64, HT⟩ := (hB.below hb).at_ hlt
      cases e
      have HM := hid HT.out.2.2
      have hx1 : wr.cell? ⟨w.heap.size + 1, 1, none⟩ = some v := (hY.cell 1).trans rfl
      have HO := hid ho
      have HX := hid hX
      have HY := hid hY
      clear ho hX hY
      go_wp2
      go_region_law (first
        | (go_simp; go_at_call 70; refine (HF.out b HM.out _ (below_drew hb)).mono ?_; rintro e W' ⟨rfl, q, hq⟩
           have HO1 : Hid (W'.ownsRow w.heap.size 60 1 v k (nums .u64 (il ((bs.take k).map gf)))) := by rw [hq]; exact HO.out
           have HX1 : Hid (Blk W' w.heap.size 31 #[.int .i64 0, .slice none 0 0]) := by rw [hq]; exact HX.out
           have HY1 : Hid (Blk W' (w.heap.size + 1) 31 #[.int .i64 V, v]) := by rw [hq]; exact HY.out
           have hb1 : Below w.heap.size w W' := by rw [hq]; exact pw_below_drewN (below_drew hb) _
           have hx2 : W'.cell? ⟨w.heap.size + 1, 1, none⟩ = some v := (HY1.out.cell 1).trans rfl
           have hx2a : (W'.alloc (.cells #[.int .u64 ((gf b : Nat) : Int)] 60)).cell? ⟨w.heap.size + 1, 1, none⟩ = some v := ((HY1.out.alloc _).cell 1).trans rfl
           clear hq)
        | (refine step_append_any _ rfl (.tmp 19) (.tmp 23) _ rfl w.heap.size 60 i0 _ 1 8 Tryd.underlying29 hi0 hz0 hz1 hz2 rfl (by decide) v k (nums .u64 (il ((bs.take k).map gf))) (by simp [Act.eval])
             (HO1.out.alloc _) (W'.heap.size + 1) (some ⟨_, 0, none⟩) 1 1 [.int .u64 ((gf b : Nat) : Int)] (by first | (simp [Act.eval]; done) | (simp [Act.eval]; rfl))
             (reads_one (heap_new rfl) (by omega)) (by simp [Value.oneCell']) (by simp only [maxLen] <;> omega) (by omega) (by have := hb1.size; simp <;> omega) ?_
           intro v1 w1 hown1 hg1 hat1
           obtain ⟨A1, c1, rfl⟩ := own_slice hown1
           have HX2 : Hid (Blk w1 w.heap.size 31 #[.int .i64 0, .slice none 0 0]) := (HX1.out.alloc _).grown hg1 (own_blk_ne HO1.out HX1.out (by decide)).symm
           have HY2 : Hid (Blk w1 (w.heap.size + 1) 31 #[.int .i64 V, v]) := (HY1.out.alloc _).grown hg1 (own_blk_ne HO1.out HY1.out (by decide)).symm
           have hf2 : w1.frozen? ⟨w.heap.size + 1, 1, none⟩ = false := HY2.out.frozen 1
           have hx3 : w1.cell? ⟨w.heap.size + 1, 1, none⟩ = some v := (HY2.out.cell 1).trans rfl
           have HO2 := hid hown1
           have hb2 : Below w.heap.size w w1 := below_grown_own (below_alloc hb1 _) (by have := hb1.size; simp <;> omega) hg1 (own_base (HO1.out.alloc (.cells #[.int .u64 ((gf b : Nat) : Int)] 60)))
           clear hown1 hg1))
      all_goals
        go_wp2
        go_round
        case rel =>
          have hs := HY2.out.set_ 1 (.slice A1 (k + 1) c1)
          have hlast : (bs.take (k + 1)).map gf = (bs.take k).map gf ++ [gf b] := by rw [HT.out.1]; simp
          refine ⟨hb2.setCell (show w.heap.size ≤ w.heap.size + 1 by omega) _, k + 1, .slice A1 (k + 1) c1, by omega, by go_num, ?_, HX2.out.far (show w.heap.size ≠ w.heap.size + 1 by omega) _, by simpa using hs⟩
          rw [hlast]
          have h2 := ownsRow_setCell_other HO2.out (a := ⟨w.heap.size + 1, 1, none⟩) (own_blk_ne HO2.out HY2.out (by decide)) (.slice A1 (k + 1) c1)
          have e3 : nums .u64 (il ((bs.take k).map gf ++ [gf b])) = nums .u64 (il ((bs.take k).map gf)) ++ [.int .u64 ((gf b : Nat) : Int)] := by simp [nums, il]
          rw [e3]; exact h2
        case measure => simp [intOf]; omega
    · have e : (bs.take k).map gf = bs.map gf := by rw [List.take_of_length_le (by omega)]
      have hkn : k = bs.length := by omega
      rw [e] at ho
      clear e
      subst hkn
      obtain ⟨A1, c1, rfl⟩ := own_slice ho
      have hx1 : wr.cell? ⟨w.heap.size + 1, 1, none⟩ = some (.slice A1 bs.length c1) := (hY.cell 1).trans rfl
      have HS0 := sort_any w.heap.size (.slice A1 bs.length c1) (bs.map gf) wr (by rw [List.length_map]; exact ho) (by simpa using hn)
      rw [List.length_map] at HS0
      have HS := hid HS0
      clear HS0
      have HO := hid ho
      have HX := hid hX
      have HY := hid hY
      clear ho hX hY
      go_wp2_with (
        go_at_call 65
        refine HS.out.mono ?_
        rintro e W' ⟨rfl, ho2, hg2⟩
        have HO2 := hid ho2
        have HX2 : Hid (Blk W' w.heap.size 31 #[.int .i64 0, .slice none 0 0]) := HX.out.grown hg2 (own_blk_ne HO.out HX.out (by decide)).symm
        have HY2 : Hid (Blk W' (w.heap.size + 1) 31 #[.int .i64 V, .slice A1 bs.length c1]) := HY.out.grown hg2 (own_blk_ne HO.out HY.out (by decide)).symm
        have hb2 : Below w.heap.size w W' := below_grown_own hb hb.size hg2 (own_base HO.out)
        have y0 : W'.cell? ⟨w.heap.size + 1, 0, none⟩ = some (.int .i64 V) := (HY2.out.cell 0).trans rfl
        have y1 : W'.cell? ⟨w.heap.size + 1, 1, none⟩ = some (.slice A1 bs.length c1) := (HY2.out.cell 1).trans rfl
        have x0 : W'.cell? ⟨w.heap.size, 0, none⟩ = some (.int .i64 0) := (HX2.out.cell 0).trans rfl
        have x1 : W'.cell? ⟨w.heap.size, 1, none⟩ = some (.slice none 0 0) := (HX2.out.cell 1).trans rfl
        have f0 : W'.frozen? ⟨w.heap.size, 0, none⟩ = false := HX2.out.frozen 0
        have f1 : W'.frozen? ⟨w.heap.size, 1, none⟩ = false := HX2.out.frozen 1
        clear ho2 hg2)
      have h3 := ownsRow_setCell_other (ownsRow_setCell_other HO2.out (a := ⟨w.heap.size, 0, none⟩) (own_blk_ne HO2.out HX2.out (by decide)) (.int .i64 V)) (a := ⟨w.heap.size, 1, none⟩) (own_blk_ne HO2.out HX2.out (by decide)) (.slice A1 bs.length c1)
      have hZ := (HX2.out.set_ 0 (.int .i64 V)).set_ 1 (.slice A1 bs.length c1)
      have z0 : ((W'.setCell ⟨w.heap.size, 0, none⟩ (.int .i64 V)).setCell ⟨w.heap.size, 1, none⟩ (.slice A1 bs.length c1)).cell? ⟨w.heap.size, 0, none⟩ = some (.int .i64 V) := (hZ.cell 0).trans rfl
      have z1 : ((W'.setCell ⟨w.heap.size, 0, none⟩ (.int .i64 V)).setCell ⟨w.heap.size, 1, none⟩ (.slice A1 bs.length c1)).cell? ⟨w.heap.size, 1, none⟩ = some (.slice A1 bs.length c1) := (hZ.cell 1).trans rfl
      have hb3 : Below w.heap.size w ((W'.setCell ⟨w.heap.size, 0, none⟩ (.int .i64 V)).setCell ⟨w.heap.size, 1, none⟩ (.slice A1 bs.length c1)) := (hb2.setCell (Nat.le_refl _) _).setCell (Nat.le_refl _) _
      refine bodyPost_ret (v := .agg #[.int .i64 V, .slice A1 bs.length c1]) (by simp [results, Tryd.results49, go_sem, z0, z1]) rfl ⟨_, rfl, ?_, ?_⟩
      · exact h3
      · exact hb3
end Go.Proofs.YtoiahjncpngkeaaDoor


namespace Go.Proofs.YtoiahjncpngkeaaDoor
set_option linter.unusedSimpArgs false
set_option linter.unusedVariables false
open Go.RowKit Go.Lib Go.Proofs.YtoiahjncpngkeaaDoorW.PrintWords
attribute [local go_sem] Oper.semAt_some

set_option maxHeartbeats 2000000 in
set_option maxRecDepth 100000 in
theorem clone_any (A : Option Addr) (n c : Nat) (bs : List Nat) (w : World) (hB : BlC w A n bs) (hn : n < 2 ^ 40) :
    Calls Tryd.prog 67 #[.slice A n c] w fun e w' => ∃ v, e = .returned v ∧ w'.ownsRow w.heap.size 60 1 v n (nums .u64 (il bs)) ∧ Below w.heap.size w w' := by
  obtain ⟨i0, hi0, hz0, hz1, hz2⟩ := info_parts infoU
  have hnil := run_eql_slice_nil w 29 _ A n c Tryd.underlying29
  obtain ⟨hn1, hC, _⟩ := id hB
  subst hn1
  rcases A with _ | ad
  · have hl0 : bs.length = 0 := by
      rcases Nat.eq_zero_or_pos bs.length with h0 | h0
      · exact h0
      · obtain ⟨ad, e, _⟩ := Kd.at_int hC 0 (by omega) (by omega); cases e
    obtain rfl : bs = [] := List.eq_nil_of_length_eq_zero hl0
    clear hC hB hl0 hnil
    have hnil : (binOp .eql 29 (.slice none 0 c) (.slice none 0 0)).run Tryd.prog w = .ok (.bool true) w := run_eql_slice_nil w 29 _ none 0 c Tryd.underlying29
    go_enter Tryd.func67, Tryd.ntmps67
    go_wp2
    go_ret
    exact ⟨.slice none 0 0, rfl, ⟨by simp [nums, il], .inl ⟨rfl, by simp [nums, il]⟩⟩, Below.refl _ _⟩
  · have HR := hid (Reads.of_C hC)
    clear hC
    go_enter Tryd.func67, Tryd.ntmps67
    go_wp2_with (
      at_builtin
      refine wpList_append_any _ rfl (.tmp 5) (.tmp 6) _ rfl w.heap.size 60 i0 _ 1 8 Tryd.underlying29 hi0 hz0 hz1 hz2 rfl (by decide) (.slice (some ⟨w.heap.size, 0, none⟩) 0 0) 0 [] (by simp [Act.eval])
        (own_empty (heap_new rfl) (Nat.le_refl _)) w.heap.size (some ad) bs.length c (nums .u64 (il bs)) (by simp [Act.eval])
        (HR.out.keep fun p hp => World.cell?_alloc_lt w _ p hp) (nums_one _ _) (by simp only [maxLen] <;> omega) (by omega) (by simp) ?_
      intro v1 w1 hown1 hg1 hat1
      have hb1 : Below w.heap.size w w1 := below_grown_own (below_alloc (Below.refl _ _) _) (by simp) hg1 (by intro k hk; simp [Value.ownBlock] at hk; omega)
      have HO1 := hid hown1
      clear hown1)
    go_ret
    exact ⟨v1, rfl, by have := HO1.out; simpa using this, hb1⟩
set_option maxHeartbeats 400000 in
theorem has_any (b p : Nat) (hb : b < 2 ^ 64) (hp : p < 64) (w : World) : Calls Tryd.prog 69 #[.int .u64 b, .int .i64 p] w fun e w' => e = .returned (.bool (b.testBit p)) ∧ w' = w := by
  go_enter Tryd.func69, Tryd.ntmps69
  go_wp2
  go_ret
  exact ⟨by rw [← bit_form hb]; rfl, rfl⟩
set_option maxHeartbeats 1000000 in
theorem part1_any (b p : Nat) (wi : Bool) (hb : b < 2 ^ 64) (hp : p < 64) (g1 g2 : Nat) (w : World) (h1 : w.cell? ⟨g1, 0, none⟩ = some (.int .i64 p)) (h2 : w.cell? ⟨g2, 0, none⟩ = some (.bool wi)) :
    Calls Tryd.prog 68 #[.int .u64 b, .pointer (some ⟨g1, 0, none⟩), .pointer (some ⟨g2, 0, none⟩)] w fun e w' => e = .returned (.bool (b.testBit p != wi)) ∧ ∃ q, w' = w.drewN q := by
  go_enter Tryd.func68, Tryd.ntmps68
  go_wp2_with fail
  go_quiet ((go_at_call 69; exact Calls.quiet_of_same (has_any b p hb hp _)))
  go_wp2
  go_ret
  exact ⟨rfl, nq, rfl⟩
/-- A block without the point p: the points behind it move up. -/
def ptb (p b : Nat) : Nat := (b &&& (2 ^ p - 1)) ||| (b / 2 ^ (p + 1) * 2 ^ p)
theorem ptb_form {p b : Nat} (hp : p < 16) (hb : b < 2 ^ 16) :
    bits .or .u64 (bits .and .u64 (b : Int) ((2 ^ p - 1 : Nat) : Int)) (IntKind.u64.wrap ((b : Int) / 2 ^ (p + 1) * 2 ^ p)) = ((ptb p b : Nat) : Int) := by
  have h1 : 2 ^ p ≤ 2 ^ 16 := Nat.pow_le_pow_right (by decide) (by omega)
  have h2 : b / 2 ^ (p + 1) * 2 ^ p ≤ b := by
    have h3 : b / 2 ^ (p + 1) * 2 ^ (p + 1) ≤ b := Nat.div_mul_le_self _ _
    have h4 : b / 2 ^ (p + 1) * 2 ^ p ≤ b / 2 ^ (p + 1) * 2 ^ (p + 1) := Nat.mul_le_mul_left _ (Nat.pow_le_pow_right (by decide) (by omega))
    omega
  have h5 : ((b : Int) / 2 ^ (p + 1) * 2 ^ p) = ((b / 2 ^ (p + 1) * 2 ^ p : Nat) : Int) := by simp
  rw [h5, wrapU_nat (by omega), uand (by omega) (by omega)]
  exact uor (Nat.lt_of_le_of_lt Nat.and_le_left (by omega)) (by omega)
set_option maxHeartbeats 1000000 in
theorem part2_any (b p : Nat) (hp : p < 16) (hb : b < 2 ^ 16) (g1 : Nat) (w : World) (h1 : w.cell? ⟨g1, 0, none⟩ = some (.int .i64 p)) :
    Calls Tryd.prog 70 #[.int .u64 b, .pointer (some ⟨g1, 0, none⟩)] w fun e w' => e = .returned (.int .u64 ((ptb p b : Nat) : Int)) ∧ ∃ q, w' = w.drewN q := by
  have HP := hid (ptb_form hp hb)
  have e1 : IntKind.i64.wrap ((p : Int) + 1) = (p : Int) + 1 := by rw [IntKind.wrap_i64]; omega
  have e2 : (0 : Int) ≤ (p : Int) + 1 := by omega
  have e3 : ((p : Int) + 1).toNat = p + 1 := by omega
  have e4 : (0 : Int) ≤ (p : Int) := by omega
  go_enter Tryd.func70, Tryd.ntmps70
  go_wp2_with fail
  go_quiet ((go_at_call 50; exact Calls.quiet_of_same (full_any p (by omega) _)))
  clear e1 e2 e3 e4
  go_wp2
  go_ret
  refine ⟨?_, nq, rfl⟩
  rw [← HP.out]
  rfl
/-- The blocks that have a point, or not. -/
def kpB (p : Nat) (wi : Bool) (bs : List Nat) : List Nat := bs.filter fun b => !(b.testBit p != wi)
theorem own_form {w : World} {base n : Nat} {e : TypeId} {v : Value} {bs : List Nat} (h : w.ownsRow base e 1 v n (nums .u64 (il bs))) :
    (v = .slice none 0 0 ∧ bs = [] ∧ n = 0) ∨ ∃ g cap, v = .slice (some ⟨g, 0, none⟩) n cap ∧ n ≤ cap ∧ base ≤ g ∧ n = bs.length := by
  have hl : n = bs.length := by have := h.1; simp [nums, il] at this; omega
  rcases h.2 with ⟨e1, e2⟩ | ⟨g, cap, cur, e1, hg, _, h3, h4, _⟩
  · subst hl
    have hb : bs = [] := by simpa [nums, il] using e2
    subst hb
    exact .inl ⟨e1, rfl, rfl⟩
  · exact .inr ⟨g, cap, e1, by omega, hg, hl⟩
theorem delete_v (base : Nat) (v : Value) (n : Nat) (bs : List Nat) (del : Nat → Bool) (p1 p2 : Addr) (w : World) (ho : w.ownsRow base 60 1 v n (nums .u64 (il bs))) (hb64 : ∀ b ∈ bs, b < 2 ^ 64) (hn : n < 2 ^ 40) (hq : ∀ row, (∀ g, row = some g → base ≤ g) → Del w row p1 p2 bs del) :
    Calls Tryd.prog 66 #[v, .func (.func 68) #[] #[.pointer (some p1), .pointer (some p2)]] w fun e w' =>
      ∃ A' c', e = .returned (.slice A' (bs.filter fun b => !del b).length c') ∧ Hid (∃ row, w.grownBy w' row ∧ ∀ g, row = some g → base ≤ g) ∧ BlC w' A' (bs.filter fun b => !del b).length (bs.filter fun b => !del b) := by
  rcases own_form ho with ⟨rfl, rfl, rfl⟩ | ⟨g, cap, rfl, hc, hg, rfl⟩
  · refine (delete_nil p1 p2 w).mono fun e w' ⟨h1, h2⟩ => ⟨none, 0, h1, ⟨none, by rw [h2]; exact World.grownBy.refl w _, fun g e => by cases e⟩, ?_⟩
    obtain ⟨A, c, e, _, _, hB⟩ := own_BlC ho hb64
    injection e with e1
    subst e1
    rw [h2]; exact hB
  · refine (delete_any base g cap bs del p1 p2 w ho hb64 hn hc (hq (some g) fun k e => by injection e with e; omega)).mono fun e w' ⟨h1, h2, h3⟩ => ⟨_, _, h1, ⟨some g, h2, fun k e => by injection e with e; omega⟩, h3⟩
theorem struct_put {W : World} {g base : Nat} {V : Int} {A1 : Option Addr} {n c1 : Nat} {xs : List Value} (hX : Blk W g 31 #[.int .i64 0, .slice none 0 0]) (ho : W.ownsRow base 60 1 (.slice A1 n c1) n xs) (hg : g < base) :
    ((W.setCell ⟨g, 0, none⟩ (.int .i64 V)).setCell ⟨g, 1, none⟩ (.slice A1 n c1)).cell? ⟨g, 0, none⟩ = some (.int .i64 V) ∧
    ((W.setCell ⟨g, 0, none⟩ (.int .i64 V)).setCell ⟨g, 1, none⟩ (.slice A1 n c1)).cell? ⟨g, 1, none⟩ = some (.slice A1 n c1) ∧
    ((W.setCell ⟨g, 0, none⟩ (.int .i64 V)).setCell ⟨g, 1, none⟩ (.slice A1 n c1)).ownsRow base 60 1 (.slice A1 n c1) n xs := by
  have hZ := (hX.set_ 0 (.int .i64 V)).set_ 1 (.slice A1 n c1)
  exact ⟨(hZ.cell 0).trans rfl, (hZ.cell 1).trans rfl, ownsRow_setCell_below (ownsRow_setCell_below ho (a := ⟨g, 0, none⟩) hg _) (a := ⟨g, 1, none⟩) hg _⟩
set_option maxHeartbeats 4000000 in
set_option maxRecDepth 100000 in
theorem part_any (V p : Nat) (wi : Bool) (hV2 : 2 ≤ V) (hV : V ≤ 16) (hp : p < V) (A : Option Addr) (n c : Nat) (bs : List Nat) (w : World) (hB : BlC w A n bs) (hn : n ≤ 12) (hb : ∀ b ∈ bs, b < 2 ^ V) :
    Calls Tryd.prog 52 #[.agg #[.int .i64 V, .slice A n c], .int .i64 p, .bool wi] w fun e w' =>
      ∃ v, e = .returned (.tuple #[.agg #[.int .i64 ((V - 1 : Nat) : Int), v], .int .i64 0]) ∧ w'.ownsRow w.heap.size 60 1 v (kpB p wi bs).length (nums .u64 (il (sortedL ((kpB p wi bs).map (ptb p))))) ∧ Below w.heap.size w w' := by
  have hu := Tryd.underlying31
  have hg1 : decide ((p : Int) < 0) = false := by simp <;> omega
  have hg2 : decide ((p : Int) ≥ (V : Int)) = false := by simp <;> omega
  have hg3 : decide ((V : Int) < 2) = false := by simp <;> omega
  have HBD := hid hb
  clear hb
  have CL := hid (fun W (hW : Below w.heap.size w W) => clone_any A n c bs W (hB.below hW) (by omega))
  go_enter Tryd.func52, Tryd.ntmps52
  go_wp2_with fail
  obtain ⟨w4, hw4⟩ : ∃ w4, ((((w.alloc (.cells #[.int .i64 V, .slice A n c] 31)).alloc (.cells #[.int .i64 p] 3)).alloc (.cells #[.bool wi] 4)).alloc (.cells #[.int .i64 0, .slice none 0 0] 31)) = w4 := ⟨_, rfl⟩
  have hz4 : w4.heap.size = w.heap.size + 4 := by rw [← hw4]; simp
  have hb4 : Below w.heap.size w w4 := by rw [← hw4]; exact below_alloc (below_alloc (below_alloc (below_alloc (Below.refl _ _) _) _) _) _
  have X4 : Blk w4 w.heap.size 31 #[.int .i64 V, .slice A n c] := by rw [← hw4]; exact (((Blk.new _ _ _).alloc _).alloc _).alloc _
  have P4 : Blk w4 (w.heap.size + 1) 3 #[.int .i64 p] := by
    rw [← hw4]; have := ((Blk.new (w.alloc (.cells #[.int .i64 V, .slice A n c] 31)) 3 #[.int .i64 p]).alloc (.cells #[.bool wi] 4)).alloc (.cells #[.int .i64 0, .slice none 0 0] 31); simpa using this
  have Q4 : Blk w4 (w.heap.size + 2) 4 #[.bool wi] := by
    rw [← hw4]; have := (Blk.new ((w.alloc (.cells #[.int .i64 V, .slice A n c] 31)).alloc (.cells #[.int .i64 p] 3)) 4 #[.bool wi]).alloc (.cells #[.int .i64 0, .slice none 0 0] 31); simpa using this
  have R4 : Blk w4 (w.heap.size + 3) 31 #[.int .i64 0, .slice none 0 0] := by
    rw [← hw4]; have := Blk.new (((w.alloc (.cells #[.int .i64 V, .slice A n c] 31)).alloc (.cells #[.int .i64 p] 3)).alloc (.cells #[.bool wi] 4)) 31 #[.int .i64 0, .slice none 0 0]; simpa using this
  rw [hw4]
  clear hw4
  refine (CL.out w4 hb4).mono ?_
  rintro e w1 ⟨v, rfl, ho, hb1⟩
  have hbw1 := below_then hb4 hb4.size hb1
  have X1 := X4.below hb1 X4.lt
  have P1 := P4.below hb1 P4.lt
  have Q1 := Q4.below hb1 Q4.lt
  have R1 := R4.below hb1 R4.lt
  rw [hz4] at ho
  have hpV : 2 ^ V ≤ 2 ^ 16 := Nat.pow_le_pow_right (by decide) hV
  have hDel : ∀ row, (∀ g, row = some g → w.heap.size + 4 ≤ g) → Del w1 row ⟨w.heap.size + 1, 0, none⟩ ⟨w.heap.size + 2, 0, none⟩ bs (fun b => b.testBit p != wi) := by
    intro row hrow b hm W hg
    have hbb := HBD.out b hm
    exact part1_any b p wi (by omega) (by omega) _ _ W (((P1.grown hg (fun e => by have := hrow _ e.symm; omega)).cell 0).trans rfl) (((Q1.grown hg (fun e => by have := hrow _ e.symm; omega)).cell 0).trans rfl)
  have DL := hid (delete_v (w.heap.size + 4) v n bs _ _ _ w1 ho (fun b hm => by have := HBD.out b hm; omega) (by omega) hDel)
  clear hDel ho
  have HX1 := hid X1
  have HP1 := hid P1
  have HR1 := hid R1
  clear X4 P4 Q4 R4 X1 P1 Q1 R1 hb1 hb4
  go_wp2_with fail
  go_at_call 66
  refine DL.out.mono ?_
  rintro e w2 ⟨A', c', rfl, HG, hB2⟩
  obtain ⟨row, hg2, hrow⟩ := HG.out
  have X2 := HX1.out.grown hg2 (fun e => by have := hrow _ e.symm; omega)
  have P2 := HP1.out.grown hg2 (fun e => by have := hrow _ e.symm; omega)
  have R2 := HR1.out.grown hg2 (fun e => by have := hrow _ e.symm; omega)
  have hb2 : Below w.heap.size w w2 := hbw1.grown hg2 hbw1.size (fun k e => by have := hrow _ e; omega)
  have hm12 : (bs.filter fun b => !(b.testBit p != wi)).length ≤ 12 := by
    have := List.length_filter_le (fun b => !(b.testBit p != wi)) bs
    have := hB.1; omega
  have x0 : w2.cell? ⟨w.heap.size, 0, none⟩ = some (.int .i64 V) := (X2.cell 0).trans rfl
  have MD := hid (made_pt ((V : Int) - 1) A' _ c' (kpB p wi bs) (ptb p) ⟨w.heap.size + 1, 0, none⟩ w2 hB2 hm12 (fun b hm W hW => by
    have hbb := HBD.out b (List.mem_filter.1 hm).1
    exact part2_any b p (by omega) (by omega) _ W (((P2.below hW P2.lt).cell 0).trans rfl)))
  have HR2 := hid R2
  clear hg2 hrow HG X2 P2 R2 hB2 hpV
  go_wp2_with fail
  go_at_call 49
  refine MD.out.mono ?_
  rintro e w3 ⟨v3, rfl, ho3, hb3⟩
  obtain ⟨A1, c1, rfl⟩ := own_slice ho3
  have R3 := HR2.out.below hb3 HR2.out.lt
  have q0 : w3.cell? ⟨w.heap.size + 3, 0, none⟩ = some (.int .i64 0) := (R3.cell 0).trans rfl
  have q1 : w3.cell? ⟨w.heap.size + 3, 1, none⟩ = some (.slice none 0 0) := (R3.cell 1).trans rfl
  have q2 : w3.frozen? ⟨w.heap.size + 3, 0, none⟩ = false := R3.frozen 0
  have q3 : w3.frozen? ⟨w.heap.size + 3, 1, none⟩ = false := R3.frozen 1
  have hbw3 := below_then hb2 hb2.size hb3
  obtain ⟨z0, z1, h3⟩ := struct_put (V := (V : Int) - 1) R3 ho3 HR2.out.lt
  have HO3 := hid (own_weaken h3 hb2.size)
  clear h3 ho3
  go_wp2
  rw [show ((V - 1 : Nat) : Int) = (V : Int) - 1 from by omega]
  refine bodyPost_ret (v := .tuple #[.agg #[.int .i64 ((V : Int) - 1), .slice A1 (kpB p wi bs).length c1], .int .i64 0]) (by simp [results, Tryd.results52, go_sem, z0, z1]; rfl) rfl ⟨_, rfl, HO3.out, (hbw3.setCell (by show w.heap.size ≤ w.heap.size + 3; omega) _).setCell (by show w.heap.size ≤ w.heap.size + 3; omega) _⟩
set_option maxHeartbeats 2000000 in
set_option maxRecDepth 100000 in
theorem derived_any (V p : Nat) (hV2 : 2 ≤ V) (hV : V ≤ 16) (hp : p < V) (A : Option Addr) (n c : Nat) (bs : List Nat) (w : World) (hB : BlC w A n bs) (hn : n ≤ 12) (hb : ∀ b ∈ bs, b < 2 ^ V) :
    Calls Tryd.prog 27 #[.agg #[.int .i64 V, .slice A n c], .int .i64 p] w fun e w' =>
      ∃ v, e = .returned (.tuple #[.agg #[.int .i64 ((V - 1 : Nat) : Int), v], .int .i64 0]) ∧ w'.ownsRow w.heap.size 60 1 v (kpB p true bs).length (nums .u64 (il (sortedL ((kpB p true bs).map (ptb p))))) ∧ Below w.heap.size w w' := by
  have hu := Tryd.underlying31
  have PA := hid (fun W (hW : Below w.heap.size w W) => part_any V p true hV2 hV hp A n c bs W (hB.below hW) hn hb)
  clear hb hB
  go_enter Tryd.func27, Tryd.ntmps27
  go_wp2_with fail
  obtain ⟨w2, hw2⟩ : ∃ w2, ((w.alloc (.cells #[.int .i64 V, .slice A n c] 31)).alloc (.cells #[.int .i64 0, .slice none 0 0] 31)) = w2 := ⟨_, rfl⟩
  have hb2 : Below w.heap.size w w2 := by rw [← hw2]; exact below_alloc (below_alloc (Below.refl _ _) _) _
  have R2 : Blk w2 (w.heap.size + 1) 31 #[.int .i64 0, .slice none 0 0] := by
    rw [← hw2]; have := Blk.new (w.alloc (.cells #[.int .i64 V, .slice A n c] 31)) 31 #[.int .i64 0, .slice none 0 0]; simpa using this
  rw [hw2]
  clear hw2
  refine (PA.out w2 hb2).mono ?_
  rintro e w3 ⟨v3, rfl, ho3, hb3⟩
  obtain ⟨A1, c1, rfl⟩ := own_slice ho3
  have R3 := R2.below hb3 R2.lt
  have q0 : w3.cell? ⟨w.heap.size + 1, 0, none⟩ = some (.int .i64 0) := (R3.cell 0).trans rfl
  have q1 : w3.cell? ⟨w.heap.size + 1, 1, none⟩ = some (.slice none 0 0) := (R3.cell 1).trans rfl
  have q2 : w3.frozen? ⟨w.heap.size + 1, 0, none⟩ = false := R3.frozen 0
  have q3 : w3.frozen? ⟨w.heap.size + 1, 1, none⟩ = false := R3.frozen 1
  have hbw3 := below_then hb2 hb2.size hb3
  obtain ⟨z0, z1, h3⟩ := struct_put (V := ((V - 1 : Nat) : Int)) R3 ho3 R2.lt
  have HO3 := hid (own_weaken h3 hb2.size)
  clear h3 ho3 R2 R3 hb2 hb3
  go_wp2
  exact bodyPost_ret (v := .tuple #[.agg #[.int .i64 ((V - 1 : Nat) : Int), .slice A1 (kpB p true bs).length c1], .int .i64 0]) (by simp [results, Tryd.results27, go_sem, z0, z1]) rfl ⟨_, rfl, HO3.out, (hbw3.setCell (by show w.heap.size ≤ w.heap.size + 1; omega) _).setCell (by show w.heap.size ≤ w.heap.size + 1; omega) _⟩
set_option maxHeartbeats 2000000 in
set_option maxRecDepth 100000 in
theorem residual_any (V p : Nat) (hV2 : 2 ≤ V) (hV : V ≤ 16) (hp : p < V) (A : Option Addr) (n c : Nat) (bs : List Nat) (w : World) (hB : BlC w A n bs) (hn : n ≤ 12) (hb : ∀ b ∈ bs, b < 2 ^ V) :
    Calls Tryd.prog 28 #[.agg #[.int .i64 V, .slice A n c], .int .i64 p] w fun e w' =>
      ∃ v, e = .returned (.tuple #[.agg #[.int .i64 ((V - 1 : Nat) : Int), v], .int .i64 0]) ∧ w'.ownsRow w.heap.size 60 1 v (kpB p false bs).length (nums .u64 (il (sortedL ((kpB p false bs).map (ptb p))))) ∧ Below w.heap.size w w' := by
  have hu := Tryd.underlying31
  have PA := hid (fun W (hW : Below w.heap.size w W) => part_any V p false hV2 hV hp A n c bs W (hB.below hW) hn hb)
  clear hb hB
  go_enter Tryd.func28, Tryd.ntmps28
  go_wp2_with fail
  obtain ⟨w2, hw2⟩ : ∃ w2, ((w.alloc (.cells #[.int .i64 V, .slice A n c] 31)).alloc (.cells #[.int .i64 0, .slice none 0 0] 31)) = w2 := ⟨_, rfl⟩
  have hb2 : Below w.heap.size w w2 := by rw [← hw2]; exact below_alloc (below_alloc (Below.refl _ _) _) _
  have R2 : Blk w2 (w.heap.size + 1) 31 #[.int .i64 0, .slice none 0 0] := by
    rw [← hw2]; have := Blk.new (w.alloc (.cells #[.int .i64 V, .slice A n c] 31)) 31 #[.int .i64 0, .slice none 0 0]; simpa using this
  rw [hw2]
  clear hw2
  refine (PA.out w2 hb2).mono ?_
  rintro e w3 ⟨v3, rfl, ho3, hb3⟩
  obtain ⟨A1, c1, rfl⟩ := own_slice ho3
  have R3 := R2.below hb3 R2.lt
  have q0 : w3.cell? ⟨w.heap.size + 1, 0, none⟩ = some (.int .i64 0) := (R3.cell 0).trans rfl
  have q1 : w3.cell? ⟨w.heap.size + 1, 1, none⟩ = some (.slice none 0 0) := (R3.cell 1).trans rfl
  have q2 : w3.frozen? ⟨w.heap.size + 1, 0, none⟩ = false := R3.frozen 0
  have q3 : w3.frozen? ⟨w.heap.size + 1, 1, none⟩ = false := R3.frozen 1
  have hbw3 := below_then hb2 hb2.size hb3
  obtain ⟨z0, z1, h3⟩ := struct_put (V := ((V - 1 : Nat) : Int)) R3 ho3 R2.lt
  have HO3 := hid (own_weaken h3 hb2.size)
  clear h3 ho3 R2 R3 hb2 hb3
  go_wp2
  exact bodyPost_ret (v := .tuple #[.agg #[.int .i64 ((V - 1 : Nat) : Int), .slice A1 (kpB p false bs).length c1], .int .i64 0]) (by simp [results, Tryd.results28, go_sem, z0, z1]) rfl ⟨_, rfl, HO3.out, (hbw3.setCell (by show w.heap.size ≤ w.heap.size + 1; omega) _).setCell (by show w.heap.size ≤ w.heap.size + 1; omega) _⟩
end Go.Proofs.YtoiahjncpngkeaaDoor
