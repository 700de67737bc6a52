/- SameInts, SameRows (plexusref06), even (package design), walked. -/
import Derived.Test.YtoiahjncpngkeaaDoorDg
namespace Go.Proofs.YtoiahjncpngkeaaDoor
set_option linter.unusedSimpArgs false
set_option linter.unusedVariables false
open Go.RowKit Go.Lib Go.Shelf Go.Proofs.YtoiahjncpngkeaaDoorW.PrintWords
attribute [local go_sem] Oper.semAt_some

abbrev IC (w : World) (A : Option Addr) (n : Nat) (xs : List Int) : Prop := (Kd.int .i64).C w A n xs
theorem IC.len {w : World} {A : Option Addr} {n : Nat} {xs : List Int} (h : IC w A n xs) : xs.length = n := h.1
/-- An element as a letter. -/
theorem IC.at_ {w : World} {A : Option Addr} {n : Nat} {xs : List Int} (h : IC w A n xs) {k : Nat} (hk : k < n) :
    ∃ ad x, A = some ad ∧ w.cell? (ad.add k) = some (.int .i64 x) ∧ Hid (xs.take (k + 1) = xs.take k ++ [x] ∧ xs[k]? = some x ∧ rd xs k = x) := by
  obtain ⟨ad, e, hc⟩ := Kd.at_int h k (by omega) (by omega)
  have hl : k < xs.length := by rw [h.len]; omega
  refine ⟨ad, rd xs k, e, by simpa using hc, ?_⟩
  have hx : xs[k]? = some (rd xs k) := by
    unfold rd
    rw [List.getD_eq_getElem?_getD, Int.toNat_natCast, List.getElem?_eq_getElem hl]; rfl
  exact ⟨by rw [List.take_add_one, hx]; rfl, hx, rfl⟩

theorem drewN_H0 {w wr : World} (h : Hid (∃ q, wr = w.drewN q)) : ∃ q, wr = w.drewN q := h.out
theorem drewN_H {w wr : World} (h : Hid (∃ q, wr = w.drewN q)) (n : Nat) : ∃ q, wr.drewN n = w.drewN q := by
  obtain ⟨q, rfl⟩ := h.out
  exact ⟨q + n, by rw [World.drewN_drewN]⟩
theorem _root_.Go.Proofs.YtoiahjncpngkeaaDoorW.PrintWords.Kd.C.drewH {α : Type} {d : Kd α} {w wr : World} {A : Option Addr} {n : Nat} {xs : List α} (h : d.C w A n xs) (hq : Hid (∃ q, wr = w.drewN q)) : d.C wr A n xs := by
  obtain ⟨q, rfl⟩ := hq.out
  exact Kd.C_drewN h q
set_option maxHeartbeats 400000 in
theorem sameInts_any (A B : Option Addr) (n m c d : Nat) (xs ys : List Int) (hn : n < 2 ^ 62) (hm : m < 2 ^ 62) (w : World) (hA : IC w A n xs) (hB : IC w B m ys) :
    Calls Tryd.prog 46 #[.slice A n c, .slice B m d] w fun e w' => e = .returned (.bool (xs == ys)) ∧ ∃ q, w' = w.drewN q := by
  go_enter Tryd.func46, Tryd.ntmps46
  have hxl := hA.len
  have hyl := hB.len
  subst hxl hyl
  by_cases he : xs.length = ys.length
  · have hne : ((xs.length : Int) != (ys.length : Int)) = false := by simp [he]
    go_wp2
    go_loopw [5] (fun i wr => Hid (∃ q, wr = w.drewN q) ∧ ∃ k : Nat, k ≤ xs.length ∧ i = .int .i64 k ∧ Hid (xs.take k = ys.take k)) (fun i _ => xs.length - (intOf i).toNat)
    case atStart => exact ⟨⟨0, rfl⟩, 0, by omega, rfl, rfl⟩
    case round =>
      obtain ⟨HQ, k, hk, rfl, HE⟩ := hrel
      have hAw := hA.drewH HQ
      have hBw := hB.drewH HQ
      by_cases hlt : k < xs.length
      · obtain ⟨ad, x, rfl, hcx, HX⟩ := IC.at_ hAw hlt
        obtain ⟨bd, y, rfl, hcy, HY⟩ := IC.at_ hBw (show k < ys.length by omega)
        clear hne
        by_cases hxy : x = y
        · have hne : (x != y) = false := by simp [hxy]
          go_wp2
          go_quiet (fail)
          go_wp2
          go_roundw
          case rel => exact ⟨drewN_H HQ _, k + 1, by omega, by go_num, (show _ = _ from by rw [HX.out.1, HY.out.1, HE.out, hxy])⟩
          case measure => simp [intOf]; omega
        · have hne : (x != y) = true := by simp [hxy]
          go_wp2
          go_quiet (fail)
          go_wp2
          go_ret
          refine ⟨ret_bool ?_, drewN_H HQ _⟩
          have h1 := HX.out.2.1
          have h2 := HY.out.2.1
          symm
          apply beq_false_of_ne
          rintro rfl
          rw [h1] at h2
          exact hxy (by simpa using h2)
      · have : k = xs.length := by omega
        subst this
        go_wp2
        go_ret
        refine ⟨ret_bool ?_, drewN_H0 HQ⟩
        have := HE.out
        rw [List.take_length, he, List.take_length] at this
        simp [this]
  · have hne : ((xs.length : Int) != (ys.length : Int)) = true := by simp; omega
    go_wp2
    go_ret
    refine ⟨ret_bool ?_, 0, rfl⟩
    symm
    apply beq_false_of_ne
    rintro rfl
    exact he rfl
theorem sameInts_eq (A B : Option Addr) (n m c d : Nat) (xs ys : List Int) (b : Bool) (hn : n < 2 ^ 62) (hm : m < 2 ^ 62) (hb : (xs == ys) = b) (w : World) (hA : IC w A n xs) (hB : IC w B m ys) :
    Calls Tryd.prog 46 #[.slice A n c, .slice B m d] w fun e w' => e = .returned (.bool b) ∧ ∃ q, w' = w.drewN q := by
  subst hb; exact sameInts_any A B n m c d xs ys hn hm w hA hB

abbrev RC (w : World) (A : Option Addr) (n : Nat) (xss : List (List Int)) : Prop := (Kd.slice 3 (Kd.int .i64)).C w A n xss
theorem RC.len {w : World} {A : Option Addr} {n : Nat} {xs : List (List Int)} (h : RC w A n xs) : xs.length = n := h.1
theorem RC.at_ {w : World} {A : Option Addr} {n : Nat} {xss : List (List Int)} (h : RC w A n xss) {k : Nat} (hk : k < n) :
    ∃ ad A' c' xs, A = some ad ∧ w.cell? (ad.add k) = some (.slice A' xs.length c') ∧ IC w A' xs.length xs ∧ xs.length ≤ c' ∧ Hid (xss.take (k + 1) = xss.take k ++ [xs] ∧ xss[k]? = some xs ∧ xs ∈ xss) := by
  obtain ⟨ad, c, e, hl, hK, hc⟩ := Kd.C_get h [] k (by omega) (by omega)
  obtain ⟨A', c', rfl, hle, hC⟩ := hK
  have hlt : k < xss.length := by rw [h.len]; omega
  have hx : xss[k]? = some (xss.getD ((k : Int)).toNat []) := by
    rw [List.getD_eq_getElem?_getD, Int.toNat_natCast, List.getElem?_eq_getElem hlt]; rfl
  refine ⟨ad, A', c', _, e, ?_, hC, hle, by rw [List.take_add_one, hx]; rfl, hx, List.mem_of_getElem? hx⟩
  have := hc 0 _ rfl
  simpa [Kd.slice] using this

set_option maxHeartbeats 400000 in
set_option maxRecDepth 100000 in
theorem sameRows_any (A B : Option Addr) (n m c d : Nat) (xs ys : List (List Int)) (hn : n < 2 ^ 62) (hm : m < 2 ^ 62) (hx : ∀ r ∈ xs, r.length < 2 ^ 62) (hy : ∀ r ∈ ys, r.length < 2 ^ 62) (w : World) (hA : RC w A n xs) (hB : RC w B m ys) :
    Calls Tryd.prog 21 #[.slice A n c, .slice B m d] w fun e w' => e = .returned (.bool (xs == ys)) ∧ ∃ q, w' = w.drewN q := by
  go_enter Tryd.func21, Tryd.ntmps21
  have hxl := hA.len
  have hyl := hB.len
  subst hxl hyl
  have HXL := hid hx
  have HYL := hid hy
  clear hx hy
  by_cases he : xs.length = ys.length
  · have hne : ((xs.length : Int) != (ys.length : Int)) = false := by simp [he]
    go_wp2
    go_loopw [5] (fun i wr => Hid (∃ q, wr = w.drewN q) ∧ ∃ k : Nat, k ≤ xs.length ∧ i = .int .i64 k ∧ Hid (xs.take k = ys.take k)) (fun i _ => xs.length - (intOf i).toNat)
    case atStart => exact ⟨⟨0, rfl⟩, 0, by omega, rfl, rfl⟩
    case round =>
      obtain ⟨HQ, k, hk, rfl, HE⟩ := hrel
      have hAw := hA.drewH HQ
      have hBw := hB.drewH HQ
      by_cases hlt : k < xs.length
      · obtain ⟨ad, A1, c1, x, rfl, hcx, hCx, _, HX⟩ := RC.at_ hAw hlt
        obtain ⟨bd, B1, d1, y, rfl, hcy, hCy, _, HY⟩ := RC.at_ hBw (show k < ys.length by omega)
        clear hne
        have SI := hid fun b W hb hx hy => sameInts_eq A1 B1 x.length y.length c1 d1 x y b (HXL.out _ HX.out.2.2) (HYL.out _ HY.out.2.2) hb W hx hy
        have HCX := hid hCx
        have HCY := hid hCy
        clear hCx hCy
        by_cases hxy : x = y
        · have HE2 := hid (show (x == y) = true from by simp [hxy])
          have HXY := hid hxy
          clear hxy
          go_wp2
          go_quiet ((go_at_call 46; exact Calls.quiet_of (SI.out true _ HE2.out (Kd.C_drewN HCX.out _) (Kd.C_drewN HCY.out _))))
          go_wp2
          go_roundw
          case rel => exact ⟨drewN_H HQ _, k + 1, by omega, by go_num, (show _ = _ from by rw [HX.out.1, HY.out.1, HE.out, HXY.out])⟩
          case measure => simp [intOf]; omega
        · have HE2 := hid (show (x == y) = false from by simp [hxy])
          have HXY := hid hxy
          clear hxy
          go_wp2
          go_quiet ((go_at_call 46; exact Calls.quiet_of (SI.out false _ HE2.out (Kd.C_drewN HCX.out _) (Kd.C_drewN HCY.out _))))
          go_wp2
          go_ret
          refine ⟨ret_bool ?_, drewN_H HQ _⟩
          have h1 := HX.out.2.1
          have h2 := HY.out.2.1
          symm
          apply beq_false_of_ne
          rintro rfl
          rw [h1] at h2
          exact HXY.out (by simpa using h2)
      · have : k = xs.length := by omega
        subst this
        go_wp2
        go_ret
        refine ⟨ret_bool ?_, drewN_H0 HQ⟩
        have := HE.out
        rw [List.take_length, he, List.take_length] at this
        simp [this]
  · have hne : ((xs.length : Int) != (ys.length : Int)) = true := by simp; omega
    go_wp2
    go_ret
    refine ⟨ret_bool ?_, 0, rfl⟩
    symm
    apply beq_false_of_ne
    rintro rfl
    exact he rfl
end Go.Proofs.YtoiahjncpngkeaaDoor
