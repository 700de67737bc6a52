/- What DesignResolves says, in plain words: what the search finds is a resolution, as many classes as blocks through a point, and the bound; no program in sight. -/
/- What the printed DesignResolves computes is true, whatever the bytes; no walk in sight. -/
import Derived.Test.YtoiahjncpngkeaaDoorLw
import Derived.Test.YtoiahjncpngkeaaDoorRs
import Derived.Test.YtoiahjncpngkeaaDoorPdx14
import Derived.Test.YtoiahjncpngkeaaDoorLg
namespace Go.Proofs.YtoiahjncpngkeaaDoor
set_option linter.unusedSimpArgs false
set_option linter.unusedVariables false
open Go.RowKit Go.Lib Go.Proofs.YtoiahjncpngkeaaDoorW.PrintWords

-- sorted lists
theorem withL_sorted {b : Nat} : ∀ {bs : List Nat}, bs.Pairwise (· ≤ ·) → (withL bs b).Pairwise (· ≤ ·)
  | [], _ => by simp [withL, wat]
  | x :: r, h => by
    obtain ⟨h1, h2⟩ := List.pairwise_cons.1 h
    by_cases hx : x ≤ b
    · have e : withL (x :: r) b = x :: withL r b := by
        unfold withL wat
        rw [List.takeWhile_cons, if_pos (by simpa using hx)]
        simp
      rw [e]
      refine List.pairwise_cons.2 ⟨fun y hy => ?_, withL_sorted h2⟩
      rcases withL_mem.1 hy with rfl | hy
      · exact hx
      · exact h1 y hy
    · have e : withL (x :: r) b = b :: x :: r := by
        unfold withL wat
        rw [List.takeWhile_cons, if_neg (by simpa using hx)]
        simp
      rw [e]
      refine List.pairwise_cons.2 ⟨fun y hy => ?_, h⟩
      rcases List.mem_cons.1 hy with rfl | hy
      · omega
      · have := h1 y hy; omega
theorem sortedL_sorted (l : List Nat) : (sortedL l).Pairwise (· ≤ ·) := by
  have : ∀ (l acc : List Nat), acc.Pairwise (· ≤ ·) → (l.foldl withL acc).Pairwise (· ≤ ·) := by
    intro l
    induction l with
    | nil => intro acc h; exact h
    | cons x r ih => intro acc h; exact ih _ (withL_sorted h)
  exact this l [] List.Pairwise.nil
theorem sorted_pos {bs : List Nat} (h : bs.Pairwise (· ≤ ·)) (h0 : bs.getD 0 0 ≠ 0) : ∀ b ∈ bs, b ≠ 0 := by
  cases bs with
  | nil => intro b hb; cases hb
  | cons x r =>
    intro b hb
    have hx : x ≠ 0 := by simpa using h0
    rcases List.mem_cons.1 hb with rfl | hb
    · exact hx
    · have := (List.pairwise_cons.1 h).1 b hb; omega

-- the union of a class
def uniF (bs : List Nat) (a : Nat) (c : List Nat) : Nat := c.foldl (fun a j => a ||| bs.getD j 0) a
def uni (bs : List Nat) (c : List Nat) : Nat := uniF bs 0 c
theorem uni_snoc (bs c : List Nat) (i : Nat) : uni bs (c ++ [i]) = uni bs c ||| bs.getD i 0 := by simp [uni, uniF, List.foldl_append]
theorem uniF_bit (bs : List Nat) (p : Nat) : ∀ (c : List Nat) (a : Nat), (uniF bs a c).testBit p = (a.testBit p || c.any fun j => (bs.getD j 0).testBit p) := by
  intro c
  induction c with
  | nil => intro a; simp [uniF]
  | cons j r ih =>
    intro a
    have := ih (a ||| bs.getD j 0)
    simp only [uniF, List.foldl_cons, List.any_cons] at this ⊢
    rw [this, Nat.testBit_or, Bool.or_assoc]
theorem uni_bit (bs c : List Nat) (p : Nat) : (uni bs c).testBit p = c.any fun j => (bs.getD j 0).testBit p := by
  rw [uni, uniF_bit]; simp
def Dis (bs : List Nat) (i j : Nat) : Prop := bs.getD i 0 &&& bs.getD j 0 = 0
theorem Dis.symm {bs : List Nat} {i j : Nat} (h : Dis bs i j) : Dis bs j i := by unfold Dis at *; rw [Nat.and_comm]; exact h
theorem and_zero_of {a b : Nat} (h : ∀ p, a.testBit p = true → b.testBit p = true → False) : a &&& b = 0 := by
  apply Nat.eq_of_testBit_eq
  intro p
  rw [Nat.testBit_and, Nat.zero_testBit]
  cases h1 : a.testBit p
  · rfl
  · cases h2 : b.testBit p
    · rfl
    · exact (h p h1 h2).elim
theorem of_and_zero {a b p : Nat} (h : a &&& b = 0) (h1 : a.testBit p = true) (h2 : b.testBit p = true) : False := by
  have := congrArg (fun x => x.testBit p) h
  simp [Nat.testBit_and, h1, h2] at this
theorem uni_dis {bs c : List Nat} {i : Nat} : uni bs c &&& bs.getD i 0 = 0 ↔ ∀ j ∈ c, Dis bs j i := by
  constructor
  · intro h j hj
    refine and_zero_of fun p h1 h2 => of_and_zero h (p := p) ?_ h2
    rw [uni_bit, List.any_eq_true]
    exact ⟨j, hj, h1⟩
  · intro h
    refine and_zero_of fun p h1 h2 => ?_
    rw [uni_bit, List.any_eq_true] at h1
    obtain ⟨j, hj, h1⟩ := h1
    exact of_and_zero (h j hj) h1 h2
/-- A class: blocks that have no point in common and all together. -/
structure IsCl (V : Nat) (bs : List Nat) (c : List Nat) : Prop where
  dis : c.Pairwise (Dis bs)
  full : uni bs c = 2 ^ V - 1
/-- A resolution. -/
structure Res (V : Nat) (bs : List Nat) (L : List (List Nat)) : Prop where
  cl : ∀ c ∈ L, IsCl V bs c
  perm : L.flatten.Perm (List.range bs.length)
theorem Res.lt {V : Nat} {bs : List Nat} {L : List (List Nat)} (h : Res V bs L) : ∀ j ∈ L.flatten, j < bs.length := fun j hj => by simpa using h.perm.mem_iff.1 hj
theorem Res.nodup {V : Nat} {bs : List Nat} {L : List (List Nat)} (h : Res V bs L) : L.flatten.Nodup := h.perm.nodup_iff.2 List.nodup_range
def bkL (L : List (List Nat)) : List (List Nat) := L.reverse.map List.reverse
theorem uni_perm {bs c d : List Nat} (h : ∀ j, j ∈ c ↔ j ∈ d) : uni bs c = uni bs d := by
  apply Nat.eq_of_testBit_eq
  intro p
  rw [uni_bit, uni_bit, Bool.eq_iff_iff, List.any_eq_true, List.any_eq_true]
  exact ⟨fun ⟨j, h1, h2⟩ => ⟨j, (h j).1 h1, h2⟩, fun ⟨j, h1, h2⟩ => ⟨j, (h j).2 h1, h2⟩⟩
/-- Turned around, it is one, too. -/
theorem Res.back {V : Nat} {bs : List Nat} {L : List (List Nat)} (h : Res V bs L) : Res V bs (bkL L) := by
  constructor
  · intro c hc
    obtain ⟨d, hd, rfl⟩ := List.mem_map.1 hc
    have h1 := h.cl d (by simpa using hd)
    exact ⟨List.pairwise_reverse.2 (h1.dis.imp fun h => h.symm), by rw [uni_perm (d := d) (fun j => List.mem_reverse)]; exact h1.full⟩
  · have e : (bkL L).flatten = L.flatten.reverse := by
      unfold bkL; rw [List.reverse_flatten, List.map_reverse]
    rw [e]
    exact (List.reverse_perm _).trans h.perm
theorem fz_ge {n u : Nat} (h : n ≤ fz n u) : ∀ j < n, u.testBit j = true := by
  intro j hj
  unfold fz at h
  cases hf : (List.range n).find? (fun j => !u.testBit j) with
  | none =>
    rw [List.find?_eq_none] at hf
    simpa using hf j (by simpa using hj)
  | some q =>
    rw [hf] at h
    have := List.mem_of_find?_eq_some hf
    simp at this h; omega
/-- What the search finds is a resolution. -/
theorem rgo_res {V : Nat} {bs : List Nat} : ∀ (f u : Nat) (out : List (List Nat)) (cur : List Nat) (i all : Nat) (r : List (List Nat)), rgo V bs f u out cur i all = some r →
    (∀ j, u.testBit j = true ↔ j ∈ out.flatten ++ cur) → (out.flatten ++ cur).Nodup → (∀ j ∈ out.flatten ++ cur, j < bs.length) → (∀ c ∈ out, IsCl V bs c) → cur.Pairwise (Dis bs) → all = uni bs cur → Res V bs r := by
  intro f
  induction f with
  | zero => intro u out cur i all r h; simp [rgo] at h
  | succ f ih =>
    intro u out cur i all r h hu hnd hlt hcl hdis hall
    by_cases hfull : all = 2 ^ V - 1
    · have hcl' : ∀ c ∈ out ++ [cur], IsCl V bs c := by
        intro c hc
        rcases List.mem_append.1 hc with hc | hc
        · exact hcl c hc
        · rw [List.mem_singleton.1 hc]; exact ⟨hdis, by rw [← hall]; exact hfull⟩
      have e : (out ++ [cur]).flatten = out.flatten ++ cur := by simp
      rw [rgo_full hfull] at h
      split at h
      · rename_i hge
        obtain rfl := Option.some.inj h
        refine ⟨hcl', ?_⟩
        rw [e, List.perm_ext_iff_of_nodup hnd List.nodup_range]
        intro j
        rw [List.mem_range]
        exact ⟨hlt j, fun hj => (hu j).1 (fz_ge hge j hj)⟩
      · exact ih u (out ++ [cur]) [] _ 0 r h (by rw [e]; simpa using hu) (by rw [e]; simpa using hnd) (by rw [e]; simpa using hlt) hcl' List.Pairwise.nil rfl
    · by_cases hi : bs.length ≤ i
      · rw [rgo_end hfull hi] at h; cases h
      · by_cases hs : u.testBit i = true ∨ all &&& bs.getD i 0 ≠ 0
        · rw [rgo_skip hfull (by omega) hs] at h
          exact ih u out cur (i + 1) all r h hu hnd hlt hcl hdis hall
        · have h1 : u.testBit i = false := by
            cases hb : u.testBit i
            · rfl
            · exact absurd (.inl hb) hs
          have h2 : all &&& bs.getD i 0 = 0 := by
            rcases Nat.eq_zero_or_pos (all &&& bs.getD i 0) with h2 | h2
            · exact h2
            · exact absurd (.inr (by omega)) hs
          have hni : i ∉ out.flatten ++ cur := fun hm => by rw [(hu i).2 hm] at h1; cases h1
          rw [rgo_take hfull (by omega) h1 h2] at h
          split at h
          · rename_i r' hr'
            obtain rfl := Option.some.inj h
            refine ih _ out (cur ++ [i]) (i + 1) _ r' hr' (fun j => ?_) ?_ (fun j hj => ?_) hcl ?_ ?_
            · rw [testBit_or_pow, Bool.or_eq_true, hu j, ← List.append_assoc, List.mem_append (s := out.flatten ++ cur), List.mem_singleton]
              simp only [beq_iff_eq]
              exact Or.comm
            · rw [← List.append_assoc, List.nodup_append]
              exact ⟨hnd, by simp, fun a ha b hb e => by rw [List.mem_singleton.1 hb] at e; exact hni (e ▸ ha)⟩
            · rw [← List.append_assoc, List.mem_append, List.mem_singleton] at hj
              rcases hj with hj | rfl
              · exact hlt j hj
              · omega
            · rw [List.pairwise_append]
              refine ⟨hdis, by simp, fun a ha b hb => ?_⟩
              rw [List.mem_singleton.1 hb]
              exact uni_dis.1 (hall ▸ h2) a ha
            · rw [uni_snoc, hall]
          · split at h
            · cases h
            · exact ih u out cur (i + 1) all r h hu hnd hlt hcl hdis hall
/-- What design.Resolve finds: nothing, or a resolution. -/
theorem resL_cases {V : Nat} {bs : List Nat} (hn : bs.length ≤ 14) : resL V bs = ([], 4) ∨ ∃ L, resL V bs = (L.map il, 0) ∧ Res V bs L ∧ bs ≠ [] ∧ bs.getD 0 0 ≠ 0 := by
  unfold resL
  rw [if_neg (by omega)]
  split
  · exact .inl rfl
  · rename_i h
    have h1 : bs ≠ [] := fun e => h (.inl e)
    have h2 : bs.getD 0 0 ≠ 0 := fun e => h (.inr (.inl e))
    have hl : 0 < bs.length := List.length_pos_iff.2 h1
    have hz : ¬ bs.length ≤ fz bs.length 0 := fun hc => by have := fz_ge hc 0 hl; simp at this
    rw [if_neg hz]
    split
    · rename_i r hr
      exact .inr ⟨r, rfl, rgo_res _ 0 [] [] _ 0 r hr (by simp) (by simp) (by simp) (by simp) List.Pairwise.nil rfl, h1, h2⟩
    · exact .inl rfl

-- the number of classes
theorem countP_one {l : List Nat} {R : Nat → Nat → Prop} {p : Nat → Bool} (h : l.Pairwise R) (hR : ∀ i j, R i j → p i = true → p j = true → False) (ha : l.any p = true) : l.countP p = 1 := by
  induction l with
  | nil => simp at ha
  | cons x r ih =>
    obtain ⟨h1, h2⟩ := List.pairwise_cons.1 h
    by_cases hx : p x = true
    · rw [List.countP_cons_of_pos hx, List.countP_eq_zero.2 fun a ha hp => hR x a (h1 a ha) hx hp]
    · rw [List.countP_cons_of_neg hx]
      exact ih h2 (by simpa [hx] using ha)
theorem Res.count {V : Nat} (hV : 1 ≤ V) {bs : List Nat} : ∀ {L : List (List Nat)}, (∀ c ∈ L, IsCl V bs c) → L.flatten.countP (fun j => (bs.getD j 0).testBit 0) = L.length
  | [], _ => rfl
  | c :: L, h => by
    have hc := h c (by simp)
    rw [List.flatten_cons, List.countP_append, Res.count hV fun d hd => h d (by simp [hd]), countP_one hc.dis (fun i j hij h1 h2 => of_and_zero hij h1 h2) (by
      have := congrArg (fun x => x.testBit 0) hc.full
      simp only [uni_bit, Nat.testBit_two_pow_sub_one] at this
      rw [this]; simp; omega), List.length_cons]
    omega
theorem map_getD (bs : List Nat) : (List.range bs.length).map (fun j => bs.getD j 0) = bs := by
  refine List.ext_getElem (by simp) fun i h1 h2 => ?_
  simp [List.getD_eq_getElem?_getD, h2]
theorem Res.length {V : Nat} (hV : 1 ≤ V) {bs : List Nat} {L : List (List Nat)} (h : Res V bs L) : L.length = bs.countP fun b => b.testBit 0 := by
  rw [← Res.count hV h.cl, h.perm.countP_eq]
  conv => rhs; rw [← map_getD bs, List.countP_map]
  rfl
theorem thr_one (bs : List Nat) : thr bs 1 = bs.countP fun b => b.testBit 0 := by
  unfold thr
  rw [List.countP_eq_length_filter]
  congr 2
  funext b
  rw [Bool.eq_iff_iff, Nat.testBit_zero]
  simp [Nat.and_one_is_mod]
def okPts : Bool := (List.range 128).all fun b => Nat.beq ((ptsL b).count 0) (if b.testBit 0 then 1 else 0)
set_option maxRecDepth 1000000 in
theorem okPts_true : okPts = true := by kernel_rfl
theorem degP_zero (ps : List Nat) : ∀ o : List Int, 0 < o.length → rd (degP o ps) 0 = rd o 0 + (ps.count 0 : Nat) := by
  induction ps with
  | nil => intro o _; simp [degP]
  | cons p r ih =>
    intro o ho
    have := ih (incr o p) (by rw [incr_len]; exact ho)
    simp only [degP, List.foldl_cons] at this ⊢
    rw [this]
    have e : rd (incr o p) 0 = rd o 0 + (if p = 0 then 1 else 0) := by
      simp only [rd, incr, List.getD_eq_getElem?_getD, Int.toNat_zero]
      by_cases hp : p = 0
      · subst hp; simp [ho]
      · rw [List.getElem?_set_ne hp]; simp [hp]
    rw [e, List.count_cons]
    by_cases hp : p = 0
    · subst hp; simp; omega
    · simp [hp]
theorem degL_zero {V : Nat} (hV : 1 ≤ V) {bs : List Nat} (hb : ∀ b ∈ bs, b < 128) : rd (degL V bs) 0 = ((bs.countP fun b => b.testBit 0 : Nat) : Int) := by
  have h1 := okPts_true
  simp only [okPts, List.all_eq_true, List.mem_range] at h1
  have : ∀ (bs : List Nat) (o : List Int), 0 < o.length → (∀ b ∈ bs, b < 128) → rd (bs.foldl (fun o b => degP o (ptsL b)) o) 0 = rd o 0 + ((bs.countP fun b => b.testBit 0 : Nat) : Int) := by
    intro bs
    induction bs with
    | nil => intro o _ _; simp
    | cons b r ih =>
      intro o ho hb
      rw [List.foldl_cons, ih _ (by rw [degP_len]; exact ho) (fun x hx => hb x (by simp [hx])), degP_zero _ _ ho, Nat.eq_of_beq_eq_true (h1 b (hb b (by simp))), List.countP_cons]
      split <;> simp <;> omega
  unfold degL
  rw [this bs _ (by simp; omega) hb]
  have : rd (List.replicate V (0 : Int)) 0 = 0 := by simp [rd, List.getD_eq_getElem?_getD, List.getElem?_replicate, show 0 < V from hV]
  rw [this]; simp

-- a class has V points
theorem cnt_or {a b : Nat} (h : a &&& b = 0) : ∀ k, cnt (a ||| b) k = cnt a k + cnt b k := by
  intro k
  induction k with
  | zero => rfl
  | succ k ih =>
    have hk := congrArg (fun x => x.testBit k) h
    simp only [Nat.testBit_and, Nat.zero_testBit] at hk
    simp only [cnt, ih, Nat.testBit_or]
    cases h1 : a.testBit k <;> cases h2 : b.testBit k
    · simp
    · simp; omega
    · simp; omega
    · rw [h1, h2] at hk; simp at hk
theorem cnt_uni {bs : List Nat} {K : Nat} (hK : ∀ j < bs.length, cnt (bs.getD j 0) 64 = K) : ∀ (c : List Nat), c.Pairwise (Dis bs) → (∀ j ∈ c, j < bs.length) → cnt (uni bs c.reverse) 64 = c.length * K := by
  intro c
  induction c with
  | nil => intro _ _; show cnt 0 64 = _; simp; exact (by decide : cnt 0 64 = 0)
  | cons x r ih =>
    intro h hl
    obtain ⟨h1, h2⟩ := List.pairwise_cons.1 h
    rw [List.reverse_cons, uni_snoc, cnt_or (uni_dis.2 fun j hj => (h1 j (by simpa using hj)).symm), ih h2 (fun j hj => hl j (by simp [hj])), hK x (hl x (by simp)), List.length_cons, Nat.add_mul]
    omega
theorem cnt_full : ∀ V ≤ 7, cnt (2 ^ V - 1) 64 = V := by decide +kernel
theorem IsCl.points {V K : Nat} {bs c : List Nat} (hV : V ≤ 7) (h : IsCl V bs c) (hl : ∀ j ∈ c, j < bs.length) (hK : ∀ b ∈ bs, cnt b 64 = K) : c.length * K = V := by
  have := cnt_uni (K := K) (fun j hj => hK _ (getD_mem hj)) c h.dis hl
  rw [uni_perm (d := c) (fun j => List.mem_reverse), h.full, cnt_full V hV] at this
  exact this.symm
/-- **Bose's inequality.** -/
theorem bose {V K m b r c : Nat} (hV : V ≤ 7) (hK : K < V) (h2 : 2 ≤ K) (hb : b ≤ 10) (hm : m * K = V) (e1 : b * K = V * r) (e2 : r * (K - 1) = c * (V - 1)) (hc : 1 ≤ c) : V + r ≤ b + 1 := by
  obtain rfl | rfl | rfl | rfl | rfl : K = 2 ∨ K = 3 ∨ K = 4 ∨ K = 5 ∨ K = 6 := by omega
  all_goals
    obtain rfl | rfl | rfl | rfl | rfl : V = 3 ∨ V = 4 ∨ V = 5 ∨ V = 6 ∨ V = 7 := by omega
    all_goals omega
theorem resolved_bound {V K r c : Nat} {bs : List Nat} {L : List (List Nat)} (hV : V ≤ 7) (hn : bs.length ≤ 10) (hb : ∀ b ∈ bs, b < 2 ^ V) (hKV : K < V) (h1 : chkL V bs 1 V K r = 0) (h2 : chkL V bs 2 V K c = 0)
    (hr : r = thr bs 1) (hR : Res V bs L) : V + L.length ≤ bs.length + 1 := by
  obtain ⟨hr2, -, hk, hs2⟩ := chkL_zero.1 h2
  have q1 := rightB_iff.1 (chkL_zero.1 h1).1
  have q2 := rightB_iff.1 hr2
  have hk' : ∀ b ∈ bs, cnt b 64 = K := fun b m => by have := hk b m; omega
  have e1 := (lesser_count (V := V) (K := K) (T := 1) (t := 0) (L := r) hV (by omega) (by omega) hb h1).1
  have e2 := (lesser_count (V := V) (K := K) (T := 2) (t := 1) (L := c) hV (by omega) (by omega) hb h2).1
  have z : thr bs 0 = bs.length := by unfold thr; rw [List.filter_eq_self.2]; intro b _; simp
  have ch : ∀ n, chT n 1 = n := fun n => by simp [chT]
  simp only [lamN, lamD, Nat.sub_zero, Nat.pow_zero, Nat.sub_self, z, ch, Nat.pow_one] at e1 e2
  have hlen := hR.length (by omega)
  rw [← thr_one, ← hr] at hlen
  obtain ⟨cl, hcl⟩ : ∃ cl, cl ∈ L := by
    cases L with
    | nil => simp at hlen; omega
    | cons x r => exact ⟨x, by simp⟩
  have hp := (hR.cl cl hcl).points hV (fun j hj => hR.lt j (List.mem_flatten.2 ⟨cl, hcl, hj⟩)) hk'
  rw [hlen]
  exact bose hV hKV (by omega) hn hp (by rw [Nat.mul_comm V r, e1]) (by rw [hr]; exact e2.symm) (by omega)
end Go.Proofs.YtoiahjncpngkeaaDoor


namespace Go.Proofs.YtoiahjncpngkeaaDoor.Pd
set_option linter.unusedSimpArgs false
set_option linter.unusedVariables false
open Go.RowKit Go.Lib Go.Proofs.YtoiahjncpngkeaaDoorW.PrintWords Go.Proofs.YtoiahjncpngkeaaDoorW.PrintMore Go.Proofs.YtoiahjncpngkeaaDoor

theorem Mk.okX {V : Nat} {bs : List Nat} (h : Mk V bs) : okX (V : Int) (il bs) = true := by
  have := h.v1; have := h.v7; have := h.n
  unfold Go.Proofs.YtoiahjncpngkeaaDoor.okX
  simp only [Bool.and_eq_true, decide_eq_true_eq]
  exact ⟨⟨by omega, by omega, by rw [il_length]; omega⟩, okL_il (by simpa using h.bl)⟩
theorem resolved_f {V : Nat} {bs : List Nat} (h : Mk V bs) : plexuslaw09_resolved.f V (il bs) = some (resL V bs) := by
  unfold plexuslaw09_resolved.f design_Resolve.f
  rw [if_pos h.okX, nl_il]; rfl
theorem degrees_f {V : Nat} {bs : List Nat} (h : Mk V bs) : incidence_Degrees.f V (il bs) = some (degL V bs) := by
  unfold incidence_Degrees.f
  rw [if_pos h.okX, nl_il]; rfl
/-- The blocks that were seen. -/
def snF (u : Nat) (P : List Nat) : Nat := P.foldl (fun u j => u ||| 2 ^ j) u
def sn (P : List Nat) : Nat := snF 0 P
theorem sn_snoc (P : List Nat) (j : Nat) : sn (P ++ [j]) = sn P ||| 2 ^ j := by simp [sn, snF, List.foldl_append]
theorem snF_bit (x : Nat) : ∀ (P : List Nat) (u : Nat), (snF u P).testBit x = (u.testBit x || P.any fun j => j == x) := by
  intro P
  induction P with
  | nil => intro u; simp [snF]
  | cons j r ih =>
    intro u
    have := ih (u ||| 2 ^ j)
    simp only [snF, List.foldl_cons, List.any_cons] at this ⊢
    rw [this, testBit_or_pow, Bool.or_comm (x == j), Bool.or_assoc, show (x == j) = (j == x) from by rw [Bool.eq_iff_iff]; simp; exact eq_comm]
theorem sn_bit (P : List Nat) (x : Nat) : (sn P).testBit x = true ↔ x ∈ P := by
  rw [sn, snF_bit]; simp
theorem sn_lt {P : List Nat} (h : ∀ j ∈ P, j < 10) : sn P < 1024 := by
  have : ∀ (P : List Nat) (u : Nat), u < 2 ^ 10 → (∀ j ∈ P, j < 10) → snF u P < 2 ^ 10 := by
    intro P
    induction P with
    | nil => intro u hu _; exact hu
    | cons j r ih => intro u hu hP; exact ih _ (or_pow_lt hu (hP j (by simp))) fun x hx => hP x (by simp [hx])
  exact this P 0 (by decide) h
theorem sn_full {P : List Nat} {n : Nat} (h : P.Perm (List.range n)) : sn P = 2 ^ n - 1 := by
  apply Nat.eq_of_testBit_eq
  intro x
  rw [Nat.testBit_two_pow_sub_one, Bool.eq_iff_iff, sn_bit, h.mem_iff]; simp
theorem cnt_ones : ∀ n ≤ 10, cnt (2 ^ n - 1) 64 = n := by decide +kernel
theorem shl_one {p : Nat} (hp : p < 64) : shl .u64 1 (p : Int) = ((2 ^ p : Nat) : Int) := by
  unfold shl
  rw [Int.toNat_natCast, show IntKind.u64.bits = 64 from rfl, Nat.min_eq_left (by omega), Int.one_mul, show ((2 : Int) ^ p) = ((2 ^ p : Nat) : Int) from by simp]
  exact wrapU_nat (Nat.pow_lt_pow_right (by omega) hp)
theorem shl_full {V : Nat} (hV : V ≤ 7) : IntKind.u64.wrap (shl .u64 1 (V : Int) - 1) = ((2 ^ V - 1 : Nat) : Int) := by
  have h1 : 1 ≤ 2 ^ V := Nat.one_le_two_pow
  have h2 : 2 ^ V ≤ 2 ^ 7 := Nat.pow_le_pow_right (by decide) hV
  rw [shl_one (by omega), show (((2 ^ V : Nat) : Int) - 1) = ((2 ^ V - 1 : Nat) : Int) from by omega]
  exact wrapU_nat (by omega)
theorem shr_bit {a p : Nat} (ha : a < 2 ^ 64) (hp : p < 64) : Go.bits .and .u64 (shr .u64 (a : Int) (p : Int)) 1 = 1 ↔ a.testBit p = true := by
  unfold shr
  rw [Int.toNat_natCast, show IntKind.u64.bits = 64 from rfl, Nat.min_eq_left (by omega), ← bit_form ha, beq_iff_eq]

theorem classes_inner {V : Nat} {bs : List Nat} (h : Mk V bs) (hz : ∀ b ∈ bs, b ≠ 0) (rows : List (List Int)) (len idx : Int) (P c : List Nat) (hnd : (P ++ c).Nodup) (hl : ∀ j ∈ P ++ c, j < bs.length) (hcl : IsCl V bs c) :
    ∀ m j, j + m = c.length → ∀ k, design_Classes.l1 (k + m + 1) ((sn (P ++ c.take j) : Nat) : Int) ((uni bs (c.take j) : Nat) : Int) rows len idx (il c) (c.length : Int) (j : Int) V (il bs) =
      design_Classes.l0 k ((sn (P ++ c) : Nat) : Int) rows len (wrap64 (idx + 1)) V (il bs) := by
  have hn := h.n
  intro m
  induction m with
  | zero =>
    intro j e k
    rw [show k + 0 + 1 = k + 1 from rfl, design_Classes.l1, if_neg (show ¬ (j : Int) < (c.length : Int) by omega), List.take_of_length_le (by omega), if_pos (show (0 : Int) ≤ (V : Int) by omega), shl_full h.v7, hcl.full, if_pos (show (((2 ^ V - 1 : Nat) : Int)) = ((2 ^ V - 1 : Nat) : Int) from rfl)]
  | succ m ih =>
    intro j e k
    have hj : j < c.length := by omega
    have hx : c.getD j 0 ∈ c := getD_mem hj
    have hxl := hl _ (List.mem_append_right P hx)
    have htk : c.take (j + 1) = c.take j ++ [c.getD j 0] := by
      rw [List.take_succ_eq_append_getElem hj]; simp [List.getD_eq_getElem?_getD, hj]
    have hni : c.getD j 0 ∉ P ++ c.take j := by
      have h1 : (P ++ (c.take j ++ c.getD j 0 :: c.drop (j + 1))).Nodup := by
        have : c.take j ++ c.getD j 0 :: c.drop (j + 1) = c := by
          rw [show c.getD j 0 = c[j] from by simp [List.getD_eq_getElem?_getD, hj], ← List.drop_eq_getElem_cons hj, List.take_append_drop]
        rw [this]; exact hnd
      rw [← List.append_assoc, List.nodup_append] at h1
      exact fun hm => h1.2.2 _ hm _ (List.mem_cons_self ..) rfl
    have hdis : uni bs (c.take j) &&& bs.getD (c.getD j 0) 0 = 0 := by
      refine uni_dis.2 fun i hi => ?_
      have h1 := hcl.dis
      have : (c.take (j + 1)).Pairwise (Dis bs) := List.Pairwise.sublist (List.take_sublist _ _) h1
      rw [htk, List.pairwise_append] at this
      exact this.2.2 i hi _ (by simp)
    have hB := hz _ (getD_mem hxl)
    have hB7 := h.lt128 _ (getD_mem hxl)
    have hs10 : sn (P ++ c.take j) < 1024 := sn_lt fun i hi => by
      have : i ∈ P ++ c := by
        rcases List.mem_append.1 hi with hi | hi
        · exact List.mem_append_left _ hi
        · exact List.mem_append_right _ (List.mem_of_mem_take hi)
      have := hl i this; omega
    have hu64 : uni bs (c.take j) < 2 ^ 64 := by
      have : ∀ (d : List Nat) (a : Nat), a < 2 ^ 7 → (∀ i ∈ d, i < bs.length) → uniF bs a d < 2 ^ 7 := by
        intro d
        induction d with
        | nil => intro a ha _; exact ha
        | cons i r ih => intro a ha hd; exact ih _ (Nat.or_lt_two_pow ha (h.lt128 _ (getD_mem (hd i (by simp))))) fun x hx => hd x (by simp [hx])
      have := this (c.take j) 0 (by decide) fun i hi => hl i (List.mem_append_right _ (List.mem_of_mem_take hi))
      unfold uni; omega
    have hnext : c.length < 2 ^ 40 → wrap64 ((j : Int) + 1) = ((j + 1 : Nat) : Int) := fun _ => by rw [wrap_id (by omega) (by omega)]; simp
    have hclen : c.length < 2 ^ 40 := by
      have h1 : c.Nodup := (List.nodup_append.1 hnd).2.1
      have h2 : c.length ≤ bs.length := by
        have := List.Nodup.length_le_of_subset h1 (l₂ := List.range bs.length) fun i hi => by simpa using hl i (List.mem_append_right _ hi)
        simpa using this
      omega
    have hih := ih (j + 1) (by omega) k
    rw [htk, ← List.append_assoc, sn_snoc, uni_snoc] at hih
    have hrd : rd (il c) (j : Int) = ((c.getD j 0 : Nat) : Int) := rd_il hj
    generalize c.getD j 0 = x at hx hxl htk hni hdis hB hB7 hih hrd
    have hrb : rd (il bs) (x : Int) = ((bs.getD x 0 : Nat) : Int) := rd_il hxl
    have hnb : ¬ (sn (P ++ c.take j)).testBit x = true := fun hb => hni ((sn_bit _ _).1 hb)
    have hsh := shr_bit (a := sn (P ++ c.take j)) (p := x) (by omega) (by omega)
    generalize hsg : sn (P ++ c.take j) = sg at *
    generalize hug : uni bs (c.take j) = ug at *
    rw [show k + (m + 1) + 1 = (k + m + 1) + 1 from rfl, design_Classes.l1, if_pos (show (j : Int) < (c.length : Int) by omega), if_pos (show (0 : Int) ≤ (j : Int) by omega), if_pos (show (j : Int) < ((il c).length : Int) by rw [il_length]; omega), hrd,
      if_neg (show ¬ (x : Int) < 0 by omega), if_neg (show ¬ (x : Int) ≥ ((il bs).length : Int) by rw [il_length]; omega), if_pos (show (0 : Int) ≤ (x : Int) by omega), if_neg (fun hc => hnb (hsh.1 hc)),
      if_pos (show (x : Int) < ((il bs).length : Int) by rw [il_length]; omega), hrb, if_neg (show ¬ ((bs.getD x 0 : Nat) : Int) = 0 by omega), uand hu64 (by omega), hdis, if_pos (show ((0 : Nat) : Int) = 0 from rfl),
      shl_one (by omega), uor (by omega) (Nat.pow_lt_pow_right (by omega) (by omega)), uor hu64 (by omega), hnext hclen]
    exact hih
theorem rd_L2_il {L : List (List Nat)} {i : Nat} (hi : i < L.length) : rd_L2 (L.map il) (i : Int) = il L[i] := by simp [rd_L2, List.getD_eq_getElem?_getD, hi]
theorem flat_split {L : List (List Nat)} {i : Nat} (hi : i < L.length) : L.flatten = ((L.take i).flatten ++ L[i]) ++ (L.drop (i + 1)).flatten := by
  conv => lhs; rw [← List.take_append_drop i L, List.drop_eq_getElem_cons hi, List.flatten_append, List.flatten_cons]
  rw [List.append_assoc]
theorem flat_take {L : List (List Nat)} {i : Nat} (hi : i < L.length) : (L.take (i + 1)).flatten = (L.take i).flatten ++ L[i] := by
  rw [List.take_succ_eq_append_getElem hi, List.flatten_append]; simp only [List.flatten_cons, List.flatten_nil, List.append_nil]
theorem row_len {V : Nat} {bs : List Nat} {L : List (List Nat)} (hR : Res V bs L) {i : Nat} (hi : i < L.length) : L[i].length ≤ bs.length := by
  have h1 := hR.perm.length_eq
  rw [flat_split hi] at h1
  simp at h1; omega
theorem classes_outer {V : Nat} {bs : List Nat} (h : Mk V bs) (hz : ∀ b ∈ bs, b ≠ 0) (h0 : bs ≠ []) {L : List (List Nat)} (hR : Res V bs L) (hLn : L.length < 2 ^ 40) :
    ∀ m i, i + m = L.length → ∀ k, design_Classes.l0 (k + m * (bs.length + 2) + 1) ((sn (L.take i).flatten : Nat) : Int) (L.map il) ((L.map il).length : Int) (i : Int) V (il bs) = some 0 := by
  have hn := h.n
  have hpos : 0 < bs.length := List.length_pos_iff.2 h0
  intro m
  induction m with
  | zero =>
    intro i e k
    have hlt : ∀ j ∈ L.flatten, j < 10 := fun j hj => by have := hR.lt j hj; omega
    rw [design_Classes.l0, if_neg (show ¬ (i : Int) < ((L.map il).length : Int) by simp; omega), List.take_of_length_le (by omega), if_neg (show ¬ ((il bs).length : Int) = 0 by rw [il_length]; omega),
      ones_f (by have := sn_lt hlt; omega), Option.bind_some, sn_full hR.perm, cnt_ones _ hn, if_pos (show ((bs.length : Nat) : Int) = ((il bs).length : Int) by rw [il_length])]
  | succ m ih =>
    intro i e k
    have hi : i < L.length := by omega
    have hrl := row_len hR hi
    have hmem : L[i] ∈ L := List.getElem_mem hi
    have hnd := hR.nodup
    rw [flat_split hi] at hnd
    have hnext : wrap64 ((i : Int) + 1) = ((i + 1 : Nat) : Int) := by rw [wrap_id (by omega) (by omega)]; simp
    have e1 : k + (m + 1) * (bs.length + 2) + 1 = ((k + (bs.length - L[i].length) + m * (bs.length + 2) + 1) + L[i].length + 1) + 1 := by rw [Nat.add_mul]; omega
    have hin := classes_inner h hz (L.map il) ((L.map il).length : Int) (i : Int) (L.take i).flatten L[i] (List.nodup_append.1 hnd).1 (fun j hj => hR.lt j (by rw [flat_split hi]; exact List.mem_append_left _ hj)) (hR.cl _ hmem) L[i].length 0 (by omega) (k + (bs.length - L[i].length) + m * (bs.length + 2) + 1)
    rw [hnext, ← flat_take hi, ih (i + 1) (by omega) (k + (bs.length - L[i].length)), List.take_zero, List.append_nil] at hin
    rw [e1, design_Classes.l0, if_pos (show (i : Int) < ((L.map il).length : Int) by simp; omega), if_pos (show (0 : Int) ≤ (i : Int) by omega), if_pos (show (i : Int) < ((L.map il).length : Int) by simp; omega), rd_L2_il hi, il_length]
    exact hin
theorem classes_f {V : Nat} {bs : List Nat} (h : Mk V bs) (hz : ∀ b ∈ bs, b ≠ 0) (h0 : bs ≠ []) {L : List (List Nat)} (hR : Res V bs L) (hLn : L.length < 2 ^ 40) (k : Nat) :
    design_Classes.f (k + L.length * (bs.length + 2) + 1) V (il bs) (L.map il) = some 0 := by
  have := classes_outer h hz h0 hR hLn L.length 0 (by omega) k
  unfold design_Classes.f
  exact this
def bkI (M : List (List Nat)) : List (List Int) := (bkL M).map il
theorem il_append (a b : List Nat) : il (a ++ b) = il a ++ il b := by simp [il]
theorem back_inner {V : Int} {B : List Int} {rows x6 : List (List Int)} {e : Int} {i : Nat} {c : List Nat} (hrow : rd_L2 rows (i : Int) = il c) (hi : i < rows.length) (hc : c.length < 2 ^ 40) (h6 : x6.length < 2 ^ 40) :
    ∀ s ≤ c.length, ∀ k, plexuslaw09_DesignResolves.l1 (k + s + 1) true x6 (i : Int) (il (c.drop s).reverse) ((s : Int) - 1) V B rows e = plexuslaw09_DesignResolves.l0 k true (x6 ++ [il c.reverse]) (wrap64 ((i : Int) - 1)) V B rows e := by
  intro s
  induction s with
  | zero =>
    intro _ k
    rw [show k + 0 + 1 = k + 1 from rfl, plexuslaw09_DesignResolves.l1, if_neg (show ¬ ((0 : Nat) : Int) - 1 ≥ 0 by omega), if_pos (show x6.length < 5864062014805 by omega), List.drop_zero]
  | succ s ih =>
    intro hs k
    have hnext : wrap64 ((s : Int) - 1) = (s : Int) - 1 := wrap_id (by omega) (by omega)
    have hl : (il (c.drop (s + 1)).reverse).length < 17592186044416 := by simp [il_length]; omega
    have hd : il (c.drop (s + 1)).reverse ++ [rd (il c) (s : Int)] = il (c.drop s).reverse := by
      rw [rd_il (by omega), List.drop_eq_getElem_cons (show s < c.length by omega), List.reverse_cons, il_append]
      simp [il, List.getD_eq_getElem?_getD, show s < c.length by omega]
    rw [show k + (s + 1) + 1 = (k + s + 1) + 1 from rfl, plexuslaw09_DesignResolves.l1, show (((s + 1 : Nat) : Int) - 1) = (s : Int) from by omega, if_pos (show (s : Int) ≥ 0 by omega), if_pos (show (0 : Int) ≤ (i : Int) by omega), if_pos (show (i : Int) < (rows.length : Int) by omega),
      if_pos (show (0 : Int) ≤ (s : Int) by omega), hrow, if_pos (show (s : Int) < ((il c).length : Int) by rw [il_length]; omega), if_pos hl, hd, hnext]
    exact ih (by omega) k
theorem bkI_drop {L : List (List Nat)} {t : Nat} (ht : t < L.length) : bkI (L.drop (t + 1)) ++ [il L[t].reverse] = bkI (L.drop t) := by
  unfold bkI bkL; rw [List.drop_eq_getElem_cons ht, List.reverse_cons, List.map_append, List.map_append]; rfl
theorem back_outer {V : Nat} {bs : List Nat} (h : Mk V bs) {L : List (List Nat)} (hR : Res V bs L) (hLn : L.length < 2 ^ 39) (K : Nat)
    (hend : ∀ k, K ≤ k → plexuslaw09_DesignResolves.l0 (k + 1) true (bkI L) (-1) V (il bs) (L.map il) 0 = some true) :
    ∀ t ≤ L.length, ∀ k, K ≤ k → plexuslaw09_DesignResolves.l0 (k + t * (bs.length + 2) + 1) true (bkI (L.drop t)) ((t : Int) - 1) V (il bs) (L.map il) 0 = some true := by
  have hn := h.n
  intro t
  induction t with
  | zero =>
    intro _ k hk
    rw [Nat.zero_mul, List.drop_zero]
    exact hend k hk
  | succ t ih =>
    intro ht k hk
    have hi : t < L.length := by omega
    have hrl := row_len hR hi
    have hnext : wrap64 ((t : Int) - 1) = (t : Int) - 1 := wrap_id (by omega) (by omega)
    have hc1 : wrap64 (((il L[t]).length : Int) - 1) = ((L[t].length : Nat) : Int) - 1 := by rw [il_length]; exact wrap_id (by omega) (by omega)
    have e1 : k + (t + 1) * (bs.length + 2) + 1 = ((k + (bs.length - L[t].length)) + t * (bs.length + 2) + 1 + L[t].length + 1) + 1 := by rw [Nat.add_mul]; omega
    have hin := back_inner (V := V) (B := il bs) (e := 0) (x6 := bkI (L.drop (t + 1))) (rd_L2_il hi) (by simpa using hi) (by omega) (by simp [bkI, bkL]; omega) L[t].length (Nat.le_refl _) ((k + (bs.length - L[t].length)) + t * (bs.length + 2) + 1)
    rw [hnext, bkI_drop hi, ih (by omega) _ (by omega), List.drop_length] at hin
    rw [e1, plexuslaw09_DesignResolves.l0, show (((t + 1 : Nat) : Int) - 1) = (t : Int) from by omega, if_pos (show (t : Int) ≥ 0 by omega), if_pos (show (0 : Int) ≤ (t : Int) by omega), if_pos (show (t : Int) < ((L.map il).length : Int) by simp; omega), rd_L2_il hi, hc1]
    exact hin
/-- **DesignResolves answers true.** -/
theorem resolves_true {l : List Int} (hl : l.length < 2 ^ 63) (hb : okL 256 l = true) : ∃ k, plexuslaw09_DesignResolves.f k l = some true := by
  have hm := mk_lim (nl l)
  have hso : (limB (nl l) 7).Pairwise (· ≤ ·) := sortedL_sorted _
  have hf : ∀ k, plexuslaw09_DesignResolves.f k l = plexuslaw09_DesignResolves.f k l := fun _ => rfl
  conv at hf => intro k; rhs; unfold plexuslaw09_DesignResolves.f plexuslaw09_examples.f; rw [Option.bind_some, if_pos rfl, made_f hl hb]; simp only [Option.bind_some]; rw [resolved_f hm]
  generalize limV (nl l) 7 = V at hm hf hso
  generalize limB (nl l) 7 = bs at hm hf hso
  have hn := hm.n
  have hv := hm.v7
  have hv1 := hm.v1
  clear hl hb
  simp only [Option.bind_some] at hf
  rcases resL_cases (V := V) (bs := bs) (by omega) with h | ⟨L, h, hR, h0, hz0⟩
  · rw [h] at hf; exact ⟨1, (hf 1).trans rfl⟩
  rw [h] at hf
  dsimp only at hf
  simp only [if_true] at hf
  have hz := sorted_pos hso hz0
  have hlen := hR.length hv1
  have hLn : L.length ≤ 10 := by rw [hlen]; have := List.countP_le_length (p := fun b : Nat => b.testBit 0) (l := bs); omega
  have hdeg := degL_zero hv1 hm.lt128
  have hdl := degL_len V bs
  refine ⟨(L.length * (bs.length + 2) + 1) + L.length * (bs.length + 2) + 1, (hf _).trans ?_⟩
  clear hf
  have hw : wrap64 (((L.map il).length : Int) - 1) = ((L.length : Nat) : Int) - 1 := by rw [List.length_map]; exact wrap_id (by omega) (by omega)
  rw [hw, show ([] : List (List Int)) = bkI (L.drop L.length) from by rw [List.drop_length]; rfl]
  refine back_outer hm hR (by omega) (L.length * (bs.length + 2) + 1) ?_ L.length (Nat.le_refl _) _ (Nat.le_refl _)
  intro k hk
  have hst := strength_f hm
  have hcl := classes_f hm hz h0 hR (by omega) (k - (L.length * (bs.length + 2) + 1))
  rw [show k - (L.length * (bs.length + 2) + 1) + L.length * (bs.length + 2) + 1 = k by omega] at hcl
  have hbl : (bkL L).length = L.length := by simp [bkL]
  have hcb := classes_f hm hz h0 hR.back (by omega) (k - (L.length * (bs.length + 2) + 1))
  rw [hbl, show k - (L.length * (bs.length + 2) + 1) + L.length * (bs.length + 2) + 1 = k by omega] at hcb
  have hj1 : 0 < ((degL V bs).length : Int) := by rw [hdl]; omega
  have hj2 : (((L.map il).length : Int) != rd (degL V bs) 0) = false := by rw [hdeg, ← hlen, List.length_map]; simp
  obtain ⟨k, rfl⟩ : ∃ m, k = m + 1 := ⟨k - 1, by omega⟩
  rw [plexuslaw09_DesignResolves.l0, if_neg (show ¬ (-1 : Int) ≥ 0 by decide), hst, Option.bind_some, hcl, Option.bind_some, if_pos (show (0 : Int) = 0 from rfl), show bkI L = (bkL L).map il from rfl, hcb, Option.bind_some, if_pos (show (0 : Int) = 0 from rfl),
    degrees_f hm, Option.bind_some, if_pos hj1, hj2, plexuslaw09_DesignResolves.j2, if_neg (show ¬ false = true by simp)]
  dsimp only
  rcases strL_cases V bs with hs | ⟨T, K, h1, h2, hs, h4⟩
  · rw [hs]; rfl
  rw [hs]
  dsimp only
  rw [if_pos (show (0 : Int) = 0 from rfl)]
  by_cases t2 : T < 2
  · rw [if_pos (show (T : Int) < 2 by omega)]
  rw [if_neg (show ¬ (T : Int) < 2 by omega)]
  by_cases hKV : K = V
  · rw [if_pos (show (K : Int) = (V : Int) by omega)]
  rw [if_neg (show ¬ (K : Int) = (V : Int) by omega)]
  have hTV := rightB_iff.1 (chkL_zero.1 (h4 T (Nat.le_refl _))).1
  have hbd := resolved_bound hv hn hm.bl (show K < V by omega) (h4 1 (by omega)) (h4 2 (by omega)) rfl hR
  rw [List.length_map, wrap_id (x := (V : Int) + (L.length : Int)) (by omega) (by omega), wrap_id (by omega) (by omega), il_length, if_pos (show (bs.length : Int) ≥ (V : Int) + (L.length : Int) - 1 by omega)]
end Go.Proofs.YtoiahjncpngkeaaDoor.Pd
