/- All threads' alarms in a row. No condition of its own. -/
import Derived.Test.YtaolkpkaiidmeaaSteps
namespace Go.Proofs.Ytaolkpkaiidmeaa.Abs
set_option linter.unusedSimpArgs false
set_option linter.unusedVariables false
set_option maxRecDepth 100000
set_option maxHeartbeats 8000000
def arrL (T : List P2) : List Int := (List.range 256).map fun (i : Nat) => at0 T (i : Int)
/-- What a list of all threads' alarms holds. -/
def arr (T : List P2) : List AV := (arrL T).map (AV.i .i64)
theorem arrL_len (T : List P2) : (arrL T).length = 256 := by simp [arrL]
theorem arr_len (T : List P2) : (arr T).length = 256 := by simp [arr, arrL]
theorem arrL_get {T : List P2} {i : Nat} (hi : i < 256) : (arrL T)[i]? = some (at0 T i) := by
  unfold arrL
  rw [List.getElem?_map, List.getElem?_range hi]
  rfl
theorem arrT_get {T : List P2} {x : Int} (h : 0 ≤ x ∧ x < 256) : (arr T)[x.toNat]? = some (.i .i64 (at0 T x)) := by
  have hx : ((x.toNat : Nat) : Int) = x := by omega
  unfold arr
  rw [List.getElem?_map, arrL_get (by omega), hx]
  rfl
theorem at0_del (T : List P2) (x y : Int) : at0 (delT T x) y = if y = x then 0 else at0 T y := by
  unfold at0
  rw [lk_del]
  split <;> rfl
theorem at0_set (T : List P2) (x v y : Int) : at0 (setT T x v) y = if y = x then v else at0 T y := by
  unfold at0
  rw [lk_set]
  split <;> rfl
theorem arr_put {T T' : List P2} {x v : Int} (h : 0 ≤ x ∧ x < 256) (hv : ∀ y, at0 T' y = if y = x then v else at0 T y) : setR (arr T) x.toNat [.i .i64 v] = arr T' := by
  unfold arr
  rw [setR_map (by rw [arrL_len]; omega)]
  congr 1
  apply List.ext_getElem?
  intro i
  by_cases hi : i < 256
  · rw [arrL_get hi, List.getElem?_set, hv]
    by_cases e : x.toNat = i
    · rw [if_pos e, if_pos (by rw [arrL_len]; omega), if_pos (by omega)]
    · rw [if_neg e, if_neg (by omega), arrL_get hi]
  · rw [List.getElem?_eq_none (by rw [List.length_set, arrL_len]; omega), List.getElem?_eq_none (by rw [arrL_len]; omega)]
theorem arr_del {T : List P2} {x : Int} (h : 0 ≤ x ∧ x < 256) : setR (arr T) x.toNat [.i .i64 0] = arr (delT T x) := arr_put h (at0_del T x)
theorem arr_set {T : List P2} {x v : Int} (h : 0 ≤ x ∧ x < 256) : setR (arr T) x.toNat [.i .i64 v] = arr (setT T x v) := arr_put h (at0_set T x v)
theorem and255 (x : Int) : 0 ≤ bAnd .i64 x 255 ∧ bAnd .i64 x 255 < 256 := by
  unfold bAnd
  have h : (BitVec.ofInt 64 x &&& BitVec.ofInt 64 255).toNat < 256 := by
    rw [BitVec.toNat_and]
    have : (BitVec.ofInt 64 255).toNat = 255 := by decide
    rw [this]
    exact Nat.lt_of_le_of_lt Nat.and_le_right (by omega)
  show 0 ≤ IntKind.i64.wrap (((BitVec.ofInt 64 x &&& BitVec.ofInt 64 255).toNat : Nat) : Int) ∧ IntKind.i64.wrap (((BitVec.ofInt 64 x &&& BitVec.ofInt 64 255).toNat : Nat) : Int) < 256
  generalize (BitVec.ofInt 64 x &&& BitVec.ofInt 64 255).toNat = z at h
  rw [wrap_i64 (by omega)]
  omega
theorem at0_dels (D : List Int) (T : List P2) (x : Int) : at0 (D.foldl delT T) x = if x ∈ D then 0 else at0 T x := by
  unfold at0
  rw [lk_dels]
  split <;> rfl
theorem foldl_snoc {D : List Int} {i : Nat} {x : Int} {T : List P2} (hx : D[i]? = some x) : (D.take (i + 1)).foldl delT T = delT ((D.take i).foldl delT T) x := by
  rw [take_snoc hx, List.foldl_append]
  rfl
theorem due_sorted (T : List P2) (N : Int) : (dueT T N).Pairwise fun a b => at0 T a ≤ at0 T b := by
  rw [dueT_filter]
  exact ((srtT_sorted T).imp (fun h => by omega)).filter _
end Go.Proofs.Ytaolkpkaiidmeaa.Abs
