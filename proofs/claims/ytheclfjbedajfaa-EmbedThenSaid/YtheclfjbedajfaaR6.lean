/- The reference of layer 6, walked: what its small functions compute; blocks below 2 ^ 64. -/
import Derived.Test.YtheclfjbedajfaaBa
namespace Go.Proofs.Ytheclfjbedajfaa
set_option linter.unusedSimpArgs false
set_option linter.unusedVariables false
open Go.RowKit Go.Lib Go.Proofs.YtheclfjbedajfaaW.PrintWords

set_option maxHeartbeats 400000 in
theorem bit_any (a p : Nat) (ha : a < 2 ^ 64) (hp : p < 64) (w : World) :
    Calls Try.prog 52 #[.int .u64 a, .int .i64 p] w fun e w' => e = .returned (.bool (a.testBit p)) ∧ w' = w := by
  go_enter Try.func52, Try.ntmps52
  go_wp2
  go_ret
  refine ⟨?_, rfl⟩
  rw [← bit_form ha]; rfl

/-- how many of the first k bits -/
def cnt (a : Nat) : Nat → Nat
  | 0 => 0
  | k + 1 => cnt a k + if a.testBit k then 1 else 0
theorem cnt_le (a k : Nat) : cnt a k ≤ k := by induction k with | zero => simp [cnt] | succ k ih => simp only [cnt]; split <;> omega

set_option maxHeartbeats 400000 in
theorem size_any (a : Nat) (ha : a < 2 ^ 64) (w : World) :
    Calls Try.prog 44 #[.int .u64 a] w fun e w' => e = .returned (.int .i64 (cnt a 64)) ∧ w' = w := by
  go_enter Try.func44, Try.ntmps44
  go_wp2
  go_loop [3, 4] (fun n i => ∃ k : Nat, k ≤ 64 ∧ i = .int .i64 k ∧ n = .int .i64 (cnt a k)) (fun _ i => 64 - (intOf i).toNat)
  case atStart => exact ⟨0, by omega, rfl, rfl⟩
  case round =>
    obtain ⟨k, hk, rfl, rfl⟩ := hrel
    have hl := cnt_le a k
    by_cases hlt : k < 64
    · cases hb : a.testBit k
      all_goals
        have H := hid hb
        have hcn := hid (show cnt a (k+1) = cnt a k + if a.testBit k then 1 else 0 from rfl)
        clear hb
        go_wp2_with (go_at_call 52; refine (bit_any _ _ ha hlt _).mono ?_; rintro e w' ⟨rfl, rfl⟩; rw [H.out])
        go_round
        case rel => exact ⟨k + 1, by omega, by go_num, by rw [hcn.out, H.out]; first | rfl | simp⟩
        case measure => simp [intOf]; omega
    · have : k = 64 := by omega
      subst this
      go_wp2
      go_ret
      exact ⟨rfl, rfl⟩

theorem infoU : (Try.prog.info? 60).map (fun i => (i.zero, i.size, i.bytes)) = some (some (.int .u64 0), 1, 8) := by kernel_rfl

/-- Where a block goes in a sorted list. -/
def wat (bs : List Nat) (b : Nat) : Nat := (bs.takeWhile (· ≤ b)).length
def withL (bs : List Nat) (b : Nat) : List Nat := bs.take (wat bs b) ++ [b] ++ bs.drop (wat bs b)
theorem wat_le (bs : List Nat) (b : Nat) : wat bs b ≤ bs.length := by
  unfold wat; exact (List.takeWhile_sublist _).length_le
theorem wat_lt {bs : List Nat} {b k x : Nat} (hk : k < wat bs b) (hx : bs[k]? = some x) : x ≤ b := by
  induction bs generalizing k with
  | nil => simp at hx
  | cons y r ih =>
    unfold wat at hk ih
    rw [List.takeWhile_cons] at hk
    split at hk
    · cases k with
      | zero => simp at hx; subst hx; simpa using ‹(decide (y ≤ b)) = true›
      | succ k => simp at hx hk; exact ih hk hx
    · simp at hk
theorem wat_at {bs : List Nat} {b x : Nat} (hx : bs[wat bs b]? = some x) : b < x := by
  induction bs with
  | nil => simp at hx
  | cons y r ih =>
    unfold wat at hx ih
    rw [List.takeWhile_cons] at hx
    split at hx
    · simp at hx; exact ih hx
    · simp at hx; subst hx; rename_i h; simpa using h

set_option maxHeartbeats 2000000 in
set_option maxRecDepth 100000 in
theorem with_any (A : Option Addr) (n c : Nat) (bs : List Nat) (b : Nat) (hb64 : b < 2 ^ 64) (w : World) (hB : BlC w A n bs) (hn : n < 2 ^ 40) (hc : n ≤ c) :
    Calls Try.prog 26 #[.slice A n c, .int .u64 b] w fun e w' => ∃ v, e = .returned v ∧ w'.ownsRow w.heap.size 60 1 v (n + 1) (nums .u64 (il (withL bs b))) ∧ Below w.heap.size w w' := by
  obtain ⟨i0, hi0, hz0, hz1, hz2⟩ := info_parts infoU
  obtain ⟨hn1, hC, _⟩ := id hB
  subst hn1
  have HR := hid (Reads.of_C hC)
  have hm := wat_le bs b
  rcases A with _ | ad
  · have hl0 : bs.length = 0 := by
      rcases Nat.eq_zero_or_pos bs.length with h0 | h0
      · exact h0
      · obtain ⟨ad, e, _⟩ := Kd.at_int hC 0 (by omega) (by omega); cases e
    obtain rfl : bs = [] := List.eq_nil_of_length_eq_zero hl0
    clear hC hl0 HR hB hm
    have HR1 := hid (show ∀ W, Below w.heap.size w W → Reads W w.heap.size 1 none 0 [] from fun W _ => Reads.none_)
    have HR3 := HR1
    go_enter Try.func26, Try.ntmps26
    go_wp2
    go_loop [5] (fun i => i = .int .i64 0) (fun i => 0)
    case atStart => rfl
    case round =>
      obtain rfl := hrel
      go_wp2
      go_region_law (first
        | (refine step_append_any _ rfl (.tmp 20) (.tmp 23) _ rfl w.heap.size 60 i0 _ 1 8 Try.underlying34 hi0 hz0 hz1 hz2 rfl (by decide) (.slice (some ⟨_, 0, none⟩) 0 0) 0 [] (by simp [Act.eval]; rfl)
            (own_empty (by first | exact blk_drew (heap_new (by simp)) | exact blk_drew (blk_alloc (heap_new rfl) _)) (by first | (simp; done) | (simp; omega))) w.heap.size none (0) c ([]) (by simp [Act.eval])
            (HR1.out _ (by first | exact Below.refl _ _ | exact below_drew (below_alloc (Below.refl _ _) _) | exact below_drew (below_alloc (below_alloc (Below.refl _ _) _) _))) (by simp) (by simp only [maxLen] <;> omega) (by omega) (by first | (simp; done) | (simp; omega)) ?_
           intro v1 w1 hown1 hg1 hat1
           have hb1 : Below w.heap.size w w1 := pw_below_grown (by first | exact Below.refl _ _ | exact below_drew (below_alloc (Below.refl _ _) _) | exact below_drew (below_alloc (below_alloc (Below.refl _ _) _) _)) _ (by first | (simp; done) | (simp; omega)) hg1 (by rintro k_ ⟨⟩; first | (simp; done) | (simp; omega) | omega)
           first
           | have hBb := blk_grown (blk_drew (blk_alloc (heap_new (o := .cells #[.int .u64 (b : Int)] 60 (0, 0)) rfl) _)) hg1 (by simp [Value.ownBlock])
           | have hBb := blk_grown (blk_drew (heap_new (g := w.heap.size + 1) (o := .cells #[.int .u64 (b : Int)] 60 (0, 0)) (by simp))) hg1 (by simp [Value.ownBlock])
           | have hBb := True.intro)
        | (refine step_append_any _ rfl (.tmp 24) (.tmp 26) _ rfl w.heap.size 60 i0 _ 1 8 Try.underlying34 hi0 hz0 hz1 hz2 rfl (by decide) v1 (0 + 0) ([] ++ []) (by simp [Act.eval])
            (by first | exact hown1 | exact hown1.alloc _) (w1.heap.size + 1) (some ⟨_, 0, none⟩) 1 1 [.int .u64 (b : Int)] (by simp [Act.eval]; rfl)
            (by first | exact reads_one hBb (by have := blk_lt hBb; omega) | exact reads_one (heap_new rfl) (by omega)) (by simp [Value.oneCell']) (by simp only [maxLen] <;> omega) (by omega) (by have := hb1.size; simp; omega) ?_
           intro v2 w2 hown2 hg2 hat2
           have hb2 : Below w.heap.size w w2 := pw_below_grown (by first | exact hb1 | exact below_alloc hb1 _) _ (by have := hb1.size; simp; omega) hg2 (own_base hown1))
        | (refine step_append_any _ rfl (.tmp 27) (.tmp 30) _ rfl w.heap.size 60 i0 _ 1 8 Try.underlying34 hi0 hz0 hz1 hz2 rfl (by decide) v2 (0 + 0 + 1) ([] ++ [] ++ [.int .u64 (b : Int)]) (by simp [Act.eval])
            hown2 w.heap.size none (0) (c - 0) ([]) (by first | (simp [Act.eval]; done) | (simp [Act.eval]; omega))
            (HR3.out _ hb2) (by simp) (by simp only [maxLen] <;> omega) (by omega) hb2.size ?_
           intro v3 w3 hown3 hg3 hat3
           have hb3 : Below w.heap.size w w3 := pw_below_grown hb2 _ hb2.size hg3 (own_base hown2)))
      all_goals
        go_wp2
        go_ret
        exact ⟨v3, rfl, by simpa [withL, wat, nums, il] using hown3, hb3⟩
  · clear hC
    go_enter Try.func26, Try.ntmps26
    go_wp2
    go_loop [5] (fun i => ∃ k : Nat, k ≤ wat bs b ∧ i = .int .i64 k) (fun i => wat bs b - (intOf i).toNat)
    case atStart => exact ⟨0, by omega, rfl⟩
    case round =>
      obtain ⟨k, hk, rfl⟩ := hrel
      by_cases hlt : k < wat bs b
      · obtain ⟨ad', x, e, hc, hx64, HT⟩ := hB.at_ (show k < bs.length by omega)
        cases e
        have hx := wat_lt hlt HT.2.1
        go_wp2
        go_round
        case rel => exact ⟨k + 1, by omega, by go_num⟩
        case measure => simp [intOf]; omega
      · have : k = wat bs b := by omega
        subst this
        have hcc : wat bs b ≤ c := by omega
        obtain ⟨A', hA'⟩ : ∃ A', (if c = wat bs b then some ad else some (ad.add (wat bs b))) = A' := ⟨_, rfl⟩
        have HR1 := hid (show ∀ W, Below w.heap.size w W → Reads W w.heap.size 1 (some ad) (wat bs b) (nums .u64 (il (bs.take (wat bs b)))) from fun W hW => by
          have := (HR.take (k := wat bs b) (by omega)).below hW
          rwa [Nat.mul_one, ← nums_il_take] at this)
        have HR3 := hid (show ∀ W, Below w.heap.size w W → Reads W w.heap.size 1 A' (bs.length - wat bs b) (nums .u64 (il (bs.drop (wat bs b)))) from fun W hW => by
          have := (HR.cut (k := wat bs b) (cap := c) (by omega) (by omega)).below hW
          rw [Nat.mul_one, ← nums_il_drop] at this
          simp only [Option.map_some] at this
          rwa [hA'] at this)
        rcases Nat.lt_or_ge (wat bs b) bs.length with hlt2 | hlt2
        case' inl =>
          obtain ⟨ad', x, e, hc', hx64, HT⟩ := hB.at_ hlt2
          cases e
          have hx := wat_at HT.2.1
        all_goals
          go_wp2
          clear hlt
          go_region_law (first
            | (refine step_append_any _ rfl (.tmp 20) (.tmp 23) _ rfl w.heap.size 60 i0 _ 1 8 Try.underlying34 hi0 hz0 hz1 hz2 rfl (by decide) (.slice (some ⟨_, 0, none⟩) 0 0) 0 [] (by simp [Act.eval]; rfl)
                (own_empty (by first | exact blk_drew (heap_new (by simp)) | exact blk_drew (blk_alloc (heap_new rfl) _)) (by first | (simp; done) | (simp; omega))) w.heap.size (some ad) (wat bs b) c (nums .u64 (il (bs.take (wat bs b)))) (by simp [Act.eval])
                (HR1.out _ (by first | exact Below.refl _ _ | exact below_drew (below_alloc (Below.refl _ _) _) | exact below_drew (below_alloc (below_alloc (Below.refl _ _) _) _))) (nums_one _ _) (by simp only [maxLen] <;> omega) (by omega) (by first | (simp; done) | (simp; omega)) ?_
               intro v1 w1 hown1 hg1 hat1
               have hb1 : Below w.heap.size w w1 := pw_below_grown (by first | exact Below.refl _ _ | exact below_drew (below_alloc (Below.refl _ _) _) | exact below_drew (below_alloc (below_alloc (Below.refl _ _) _) _)) _ (by first | (simp; done) | (simp; omega)) hg1 (by rintro k_ ⟨⟩; first | (simp; done) | (simp; omega) | omega)
               first
               | have hBb := blk_grown (blk_drew (blk_alloc (heap_new (o := .cells #[.int .u64 (b : Int)] 60 (0, 0)) rfl) _)) hg1 (by simp [Value.ownBlock])
               | have hBb := blk_grown (blk_drew (heap_new (g := w.heap.size + 1) (o := .cells #[.int .u64 (b : Int)] 60 (0, 0)) (by simp))) hg1 (by simp [Value.ownBlock])
               | have hBb := True.intro)
            | (refine step_append_any _ rfl (.tmp 24) (.tmp 26) _ rfl w.heap.size 60 i0 _ 1 8 Try.underlying34 hi0 hz0 hz1 hz2 rfl (by decide) v1 (0 + wat bs b) ([] ++ nums .u64 (il (bs.take (wat bs b)))) (by simp [Act.eval])
                (by first | exact hown1 | exact hown1.alloc _) (w1.heap.size + 1) (some ⟨_, 0, none⟩) 1 1 [.int .u64 (b : Int)] (by simp [Act.eval]; rfl)
                (by first | exact reads_one hBb (by have := blk_lt hBb; omega) | exact reads_one (heap_new rfl) (by omega)) (by simp [Value.oneCell']) (by simp only [maxLen] <;> omega) (by omega) (by have := hb1.size; simp; omega) ?_
               intro v2 w2 hown2 hg2 hat2
               have hb2 : Below w.heap.size w w2 := pw_below_grown (by first | exact hb1 | exact below_alloc hb1 _) _ (by have := hb1.size; simp; omega) hg2 (own_base hown1))
            | (refine step_append_any _ rfl (.tmp 27) (.tmp 30) _ rfl w.heap.size 60 i0 _ 1 8 Try.underlying34 hi0 hz0 hz1 hz2 rfl (by decide) v2 (0 + wat bs b + 1) ([] ++ nums .u64 (il (bs.take (wat bs b))) ++ [.int .u64 (b : Int)]) (by simp [Act.eval])
                hown2 w.heap.size A' (bs.length - wat bs b) (c - wat bs b) (nums .u64 (il (bs.drop (wat bs b)))) (by first | (simp [Act.eval]; done) | (simp [Act.eval]; omega))
                (HR3.out _ hb2) (nums_one _ _) (by simp only [maxLen] <;> omega) (by omega) hb2.size ?_
               intro v3 w3 hown3 hg3 hat3
               have hb3 : Below w.heap.size w w3 := pw_below_grown hb2 _ hb2.size hg3 (own_base hown2)))
          all_goals
            go_wp2
            go_ret
            exact ⟨v3, rfl, by have h := hown3; rw [show 0 + wat bs b + 1 + (bs.length - wat bs b) = bs.length + 1 from by omega] at h; simpa [withL, nums, il] using h, hb3⟩

def sortedL (bs : List Nat) : List Nat := bs.foldl withL []
theorem withL_length (bs : List Nat) (b : Nat) : (withL bs b).length = bs.length + 1 := by
  have := wat_le bs b; simp [withL]; omega
theorem withL_mem {bs : List Nat} {b x : Nat} : x ∈ withL bs b ↔ x = b ∨ x ∈ bs := by
  simp only [withL, List.mem_append, List.mem_singleton]
  conv => rhs; rw [← List.take_append_drop (wat bs b) bs]
  rw [List.mem_append]
  constructor
  · rintro ((h | h) | h) <;> simp [h]
  · rintro (h | h | h) <;> simp [h]
theorem sortedL_snoc (l : List Nat) (b : Nat) : sortedL (l ++ [b]) = withL (sortedL l) b := by simp [sortedL]
theorem foldl_withL_length (l : List Nat) : ∀ acc : List Nat, (l.foldl withL acc).length = acc.length + l.length := by
  induction l with
  | nil => simp
  | cons x r ih => intro acc; rw [List.foldl_cons, ih, withL_length]; simp; omega
theorem foldl_withL_mem (l : List Nat) : ∀ (acc : List Nat) (x : Nat), x ∈ l.foldl withL acc ↔ x ∈ acc ∨ x ∈ l := by
  induction l with
  | nil => simp
  | cons y r ih => intro acc x; rw [List.foldl_cons, ih, withL_mem]; simp only [List.mem_cons]; rw [or_assoc, or_left_comm]
theorem sortedL_length (l : List Nat) : (sortedL l).length = l.length := by simp [sortedL, foldl_withL_length]
theorem sortedL_mem {l : List Nat} {x : Nat} : x ∈ sortedL l ↔ x ∈ l := by simp [sortedL, foldl_withL_mem]

set_option maxHeartbeats 1000000 in
set_option maxRecDepth 100000 in
theorem sorted_any (A : Option Addr) (n c : Nat) (bs : List Nat) (w : World) (hB : BlC w A n bs) (hn : n < 2 ^ 39) :
    Calls Try.prog 45 #[.slice A n c] w fun e w' => ∃ v, e = .returned v ∧ w'.ownsRow w.heap.size 60 1 v n (nums .u64 (il (sortedL bs))) ∧ Below w.heap.size w w' := by
  obtain ⟨hn1, _⟩ := id hB
  subst hn1
  have hall : ∀ k, ∀ b ∈ sortedL (bs.take k), b < 2 ^ 64 := fun k b h => hB.2.2 b (List.mem_of_mem_take (sortedL_mem.1 h))
  have HALL := hid hall
  clear hall
  go_enter Try.func45, Try.ntmps45
  go_wp2
  go_loopw [3, 4] (fun v i wr => Below w.heap.size w wr ∧ ∃ k : Nat, k ≤ bs.length ∧ i = .int .i64 k ∧ wr.ownsRow w.heap.size 60 1 v k (nums .u64 (il (sortedL (bs.take k))))) (fun _ i _ => bs.length - (intOf i).toNat)
  case atStart => exact ⟨below_alloc (Below.refl _ _) _, 0, by omega, rfl, own_empty (heap_new rfl) (Nat.le_refl _)⟩
  case round =>
    obtain ⟨hb0, k, hk, rfl, hown⟩ := hrel
    by_cases hlt : k < bs.length
    · obtain ⟨ad, b, e, hc, hb, HT⟩ := (hB.below hb0).at_ hlt
      cases e
      obtain ⟨A1, c1, rfl, hc1, hm1, hB1⟩ := own_BlC hown (HALL.out k)
      have HO := hid hown
      clear hown
      go_wp2_with (go_at_call 26; refine (with_any A1 k c1 _ b hb _ hB1 (by omega) hc1).mono ?_; rintro e w' ⟨v, rfl, hown1, hb1⟩)
      have hb2 := below_then hb0 hb0.size hb1
      go_roundw
      case rel => exact ⟨hb2, k + 1, by omega, by go_num, by rw [HT.1, sortedL_snoc]; exact own_weaken hown1 hb0.size⟩
      case measure => simp [intOf]; omega
    · have : k = bs.length := by omega
      subst this
      go_wp2
      go_ret
      exact ⟨_, rfl, by simpa using hown, hb0⟩

theorem at_lt {l : List Nat} (hl : ∀ b ∈ l, b < 256) (i : Nat) : l.getD i 0 < 256 := by
  rcases Nat.lt_or_ge i l.length with h | h
  · exact hl _ (getD_mem h)
  · rw [List.getD_eq_getElem?_getD, List.getElem?_eq_none h]; decide
set_option maxHeartbeats 400000 in
theorem at_any (A : Option Addr) (n c : Nat) (l : List Nat) (i : Int) (hi : 0 ≤ i) (w : World) (hB : NlC .u8 256 w A n l) (hn : n < 2 ^ 63) :
    Calls Try.prog 41 #[.slice A n c, .int .i64 i] w fun e w' => e = .returned (.int .i64 (l.getD i.toNat 0 : Nat)) ∧ w' = w := by
  obtain ⟨hn1, _⟩ := id hB
  subst hn1
  obtain ⟨k, rfl⟩ := Int.eq_ofNat_of_zero_le hi
  rw [Int.toNat_natCast]
  by_cases hlt : k < l.length
  · obtain ⟨ad, b, e, hc, hb, HT⟩ := hB.at_ hlt
    cases e
    have hge : decide ((l.length : Int) ≤ (k : Int)) = false := by simp; omega
    go_enter Try.func41, Try.ntmps41
    go_wp2
    go_ret
    refine ⟨ret_i64 ?_, rfl⟩
    rw [List.getD_eq_getElem?_getD, HT.2.1, Option.getD_some]
  · have hge : decide ((l.length : Int) ≤ (k : Int)) = true := by simp; omega
    go_enter Try.func41, Try.ntmps41
    go_wp2
    go_ret
    refine ⟨ret_i64 ?_, rfl⟩
    simp [List.getD_eq_getElem?_getD, List.getElem?_eq_none (show l.length ≤ k by omega)]

def turnB (b v k : Nat) : Nat → Nat
  | 0 => 0
  | p + 1 => turnB b v k p ||| if b.testBit p then 2 ^ ((p + k) % v) else 0
theorem shl_form' {p k v : Nat} (h : (p + k) % v < 64) : IntKind.u64.wrap (2 ^ min (IntKind.u64.wrap (((p : Int) + (k : Int)) % (v : Int))).toNat 64) = ((2 ^ ((p + k) % v) : Nat) : Int) := by
  rw [show ((p : Int) + (k : Int)) % (v : Int) = (((p + k) % v : Nat) : Int) from by simp]; exact shl_form h
theorem turnB_lt (b v k p : Nat) (hv : 0 < v) (h : v ≤ 16) : turnB b v k p < 2 ^ v := by
  induction p with
  | zero => simp [turnB]; exact Nat.two_pow_pos v
  | succ p ih =>
    simp only [turnB]
    apply Nat.or_lt_two_pow ih
    split
    · exact Nat.pow_lt_pow_right (by omega) (Nat.mod_lt _ hv)
    · exact Nat.two_pow_pos v
set_option maxHeartbeats 400000 in
theorem turned_any (b v k : Nat) (hb : b < 2 ^ 64) (hv : 0 < v) (hv2 : v ≤ 16) (hk : k < 1000) (w : World) :
    Calls Try.prog 43 #[.int .u64 b, .int .i64 v, .int .i64 k] w fun e w' => e = .returned (.int .u64 (turnB b v k v)) ∧ w' = w := by
  go_enter Try.func43, Try.ntmps43
  go_wp2
  go_loop [7, 8] (fun n i => ∃ p : Nat, p ≤ v ∧ i = .int .i64 p ∧ n = .int .u64 (turnB b v k p)) (fun _ i => v - (intOf i).toNat)
  case atStart => exact ⟨0, by omega, rfl, rfl⟩
  case round =>
    obtain ⟨p, hp, rfl, rfl⟩ := hrel
    have hl := Nat.lt_of_lt_of_le (turnB_lt b v k p hv hv2) (Nat.pow_le_pow_right (by omega) (show v ≤ 64 by omega))
    by_cases hlt : p < v
    · cases hx : b.testBit p
      all_goals
        have H := hid hx
        clear hx
        go_wp2_with (go_at_call 52; refine (bit_any _ _ hb (by omega) _).mono ?_; rintro e w' ⟨rfl, rfl⟩; rw [H.out])
        go_round
        case rel => exact ⟨p + 1, by omega, by go_num, by first | (simp [turnB, H.out]; done) | (simp only [turnB, H.out, if_true]; rw [shl_form' (by have := Nat.mod_lt (p + k) hv; omega), uor (by omega) (Nat.pow_lt_pow_right (by omega) (by have := Nat.mod_lt (p + k) hv; omega))])⟩
        case measure => simp [intOf]; omega
    · have : p = v := by omega
      subst this
      go_wp2
      go_ret
      exact ⟨rfl, rfl⟩
end Go.Proofs.Ytheclfjbedajfaa
