/- math/bits.OnesCount64, walked; it counts the points of a set below 2 ^ 14. -/
import Derived.Test.YtmfmlfaglemgfaaDoorR6
import Derived.KernelRfl
namespace Go.Proofs.YtmfmlfaglemgfaaDoor
set_option linter.unusedSimpArgs false
set_option linter.unusedVariables false
open Go.RowKit Go.Lib Go.Proofs.YtmfmlfaglemgfaaDoorW.PrintWords

/-- The sum over bits as the library reckons it, over Nat. -/
def ocN (x : Nat) : Nat :=
  let a := (((x / 2) &&& 6148914691236517205) + (x &&& 6148914691236517205)) % 18446744073709551616
  let b := (((a / 4) &&& 3689348814741910323) + (a &&& 3689348814741910323)) % 18446744073709551616
  let c := (((b / 16) + b) % 18446744073709551616) &&& 1085102592571150095
  let d := (c + c / 256) % 18446744073709551616
  let e := (d + d / 65536) % 18446744073709551616
  let f := (e + e / 4294967296) % 18446744073709551616
  f &&& 127
/-- The same count, by halving. -/
def pcN : Nat → Nat → Nat
  | 0, _ => 0
  | k + 1, x => x % 2 + pcN k (x / 2)
def ocOk : Bool := (List.range 256).all fun h => (List.range 128).all fun l => Nat.beq (ocN (h * 128 + l)) (pcN 15 (h * 128 + l))
theorem ocOk_true : ocOk = true := by kernel_rfl
theorem cnt_half (x : Nat) : ∀ k, cnt x (k + 1) = x % 2 + cnt (x / 2) k := by
  intro k
  induction k with
  | zero =>
    simp only [cnt, Nat.testBit_zero]
    rcases Nat.mod_two_eq_zero_or_one x with h | h <;> simp [h]
  | succ k ih =>
    rw [cnt, ih]
    conv => rhs; rw [cnt]
    rw [Nat.testBit_succ]; omega
theorem pcN_cnt : ∀ k x, pcN k x = cnt x k
  | 0, _ => rfl
  | k + 1, x => by rw [pcN, cnt_half, pcN_cnt k]
theorem cnt_more {x k : Nat} (h : x < 2 ^ k) (j : Nat) : cnt x (k + j) = cnt x k := by
  induction j with
  | zero => rfl
  | succ j ih =>
    rw [← Nat.add_assoc, cnt, ih, Nat.testBit_lt_two_pow (Nat.lt_of_lt_of_le h (Nat.pow_le_pow_right (by omega) (by omega)))]
    simp
theorem ocN_eq {x : Nat} (h : x < 32768) : ocN x = cnt x 64 := by
  have h1 := ocOk_true
  unfold ocOk at h1
  simp only [List.all_eq_true, List.mem_range] at h1
  have h2 := h1 (x / 128) (by omega) (x % 128) (Nat.mod_lt _ (by decide))
  rw [Nat.mul_comm, Nat.div_add_mod] at h2
  rw [Nat.eq_of_beq_eq_true h2, pcN_cnt]
  exact (cnt_more (k := 15) h 49).symm
theorem wrapU_mod (a : Nat) : IntKind.u64.wrap (a : Int) = ((a % 18446744073709551616 : Nat) : Int) := by
  simp [IntKind.wrap, IntKind.bits, IntKind.signed]
theorem oc1 (x d m : Nat) (hx : x < 2 ^ 64) (hm : m < 2 ^ 64) : IntKind.u64.wrap (bits .and .u64 ((x : Int) / (d : Int)) (m : Int) + bits .and .u64 (x : Int) (m : Int)) = (((((x / d) &&& m) + (x &&& m)) % 18446744073709551616 : Nat) : Int) := by
  rw [← Int.natCast_ediv, uand (Nat.lt_of_le_of_lt (Nat.div_le_self _ _) hx) hm, uand hx hm, ← Int.natCast_add, wrapU_mod]
theorem oc1a (x : Nat) (hx : x < 2 ^ 64) : IntKind.u64.wrap (bits .and .u64 ((x : Int) / 2) 6148914691236517205 + bits .and .u64 (x : Int) 6148914691236517205) = (((((x / 2) &&& 6148914691236517205) + (x &&& 6148914691236517205)) % 18446744073709551616 : Nat) : Int) :=
  oc1 x 2 6148914691236517205 hx (by decide)
theorem oc1b (x : Nat) (hx : x < 2 ^ 64) : IntKind.u64.wrap (bits .and .u64 ((x : Int) / 4) 3689348814741910323 + bits .and .u64 (x : Int) 3689348814741910323) = (((((x / 4) &&& 3689348814741910323) + (x &&& 3689348814741910323)) % 18446744073709551616 : Nat) : Int) :=
  oc1 x 4 3689348814741910323 hx (by decide)
theorem oc2 (x : Nat) (hx : x < 2 ^ 64) : bits .and .u64 (IntKind.u64.wrap ((x : Int) / 16 + (x : Int))) 1085102592571150095 = ((((x / 16 + x) % 18446744073709551616) &&& 1085102592571150095 : Nat) : Int) := by
  rw [show (x : Int) / 16 + (x : Int) = ((x / 16 + x : Nat) : Int) from by simp, wrapU_mod]
  exact uand (by omega) (by decide)
theorem oc3 (x d : Nat) : IntKind.u64.wrap ((x : Int) + (x : Int) / (d : Int)) = ((((x + x / d) % 18446744073709551616) : Nat) : Int) := by
  rw [show (x : Int) + (x : Int) / (d : Int) = ((x + x / d : Nat) : Int) from by simp, wrapU_mod]
theorem oc3a (x : Nat) : IntKind.u64.wrap ((x : Int) + (x : Int) / 256) = ((((x + x / 256) % 18446744073709551616) : Nat) : Int) := oc3 x 256
theorem oc3b (x : Nat) : IntKind.u64.wrap ((x : Int) + (x : Int) / 65536) = ((((x + x / 65536) % 18446744073709551616) : Nat) : Int) := oc3 x 65536
theorem oc3c (x : Nat) : IntKind.u64.wrap ((x : Int) + (x : Int) / 4294967296) = ((((x + x / 4294967296) % 18446744073709551616) : Nat) : Int) := oc3 x 4294967296
theorem i64_and127 (x : Nat) (hx : x < 2 ^ 64) : bits .and .i64 (wrap64 (x : Int)) 127 = ((x &&& 127 : Nat) : Int) := by
  show IntKind.i64.wrap ((BitVec.ofInt 64 (wrap64 (x : Int)) &&& BitVec.ofInt 64 127).toNat : Int) = _
  have e : (BitVec.ofInt 64 (wrap64 (x : Int))).toNat = x := by
    rw [BitVec.toNat_ofInt]
    unfold wrap64
    omega
  have e2 : (BitVec.ofInt 64 127).toNat = 127 := by decide
  rw [BitVec.toNat_and, e, e2, IntKind.wrap_i64]
  have : x &&& 127 ≤ 127 := Nat.and_le_right
  omega
set_option maxHeartbeats 1000000 in
set_option maxRecDepth 100000 in
theorem ones_any (x : Nat) (hx : x < 32768) (w : World) :
    Calls Tryd.prog 25 #[.int .u64 x] w fun e w' => e = .returned (.int .i64 (cnt x 64)) ∧ w' = w := by
  go_enter Tryd.func25, Tryd.ntmps25
  go_wp2
  go_ret
  refine ⟨ret_i64 ?_, rfl⟩
  rw [oc1a x (by omega), oc1b _ (Nat.mod_lt _ (by decide)), oc2 _ (Nat.mod_lt _ (by decide)), oc3a, oc3b, oc3c, i64_and127 _ (Nat.mod_lt _ (by decide)), ← ocN_eq hx]
  rfl
end Go.Proofs.YtmfmlfaglemgfaaDoor
