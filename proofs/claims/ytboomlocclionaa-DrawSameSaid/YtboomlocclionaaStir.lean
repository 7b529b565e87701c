/- Plain facts on stirring a number of 64 bits: it adds, it comes back, and of three numbers stirred one behind the other not all upper 31 bits are 0, unless the first is. -/
namespace Fut

def stirN (x : Nat) : Nat :=
  let a := x ^^^ (x * 2 ^ 13 % 2 ^ 64)
  let b := a ^^^ (a / 2 ^ 7)
  b ^^^ (b * 2 ^ 17 % 2 ^ 64)

theorem sl_xor (x y s : Nat) : (x ^^^ y) * 2 ^ s % 2 ^ 64 = (x * 2 ^ s % 2 ^ 64) ^^^ (y * 2 ^ s % 2 ^ 64) := by
  rw [← Nat.shiftLeft_eq, ← Nat.shiftLeft_eq, ← Nat.shiftLeft_eq, Nat.shiftLeft_xor_distrib, Nat.xor_mod_two_pow]
theorem sr_xor (x y s : Nat) : (x ^^^ y) / 2 ^ s = (x / 2 ^ s) ^^^ (y / 2 ^ s) := by
  rw [← Nat.shiftRight_eq_div_pow, ← Nat.shiftRight_eq_div_pow, ← Nat.shiftRight_eq_div_pow, Nat.shiftRight_xor_distrib]
theorem xor4 (a b c d : Nat) : (a ^^^ b) ^^^ (c ^^^ d) = (a ^^^ c) ^^^ (b ^^^ d) := by
  rw [Nat.xor_assoc, ← Nat.xor_assoc b c d, Nat.xor_comm b c, Nat.xor_assoc c b d, ← Nat.xor_assoc]
theorem f1_xor (x y : Nat) : (x ^^^ y) ^^^ ((x ^^^ y) * 2 ^ 13 % 2 ^ 64) = (x ^^^ (x * 2 ^ 13 % 2 ^ 64)) ^^^ (y ^^^ (y * 2 ^ 13 % 2 ^ 64)) := by rw [sl_xor, xor4]
theorem f2_xor (x y : Nat) : (x ^^^ y) ^^^ ((x ^^^ y) / 2 ^ 7) = (x ^^^ (x / 2 ^ 7)) ^^^ (y ^^^ (y / 2 ^ 7)) := by rw [sr_xor, xor4]
theorem f3_xor (x y : Nat) : (x ^^^ y) ^^^ ((x ^^^ y) * 2 ^ 17 % 2 ^ 64) = (x ^^^ (x * 2 ^ 17 % 2 ^ 64)) ^^^ (y ^^^ (y * 2 ^ 17 % 2 ^ 64)) := by rw [sl_xor, xor4]
theorem stir_xor (x y : Nat) : stirN (x ^^^ y) = stirN x ^^^ stirN y := by
  show _ = stirN x ^^^ stirN y
  unfold stirN
  simp only
  rw [f1_xor, f2_xor, f3_xor]
theorem stir_lt {x : Nat} (h : x < 2 ^ 64) : stirN x < 2 ^ 64 := by
  unfold stirN
  have h1 : x ^^^ (x * 2 ^ 13 % 2 ^ 64) < 2 ^ 64 := Nat.xor_lt_two_pow h (Nat.mod_lt _ (by decide))
  have h2 : (x ^^^ (x * 2 ^ 13 % 2 ^ 64)) ^^^ ((x ^^^ (x * 2 ^ 13 % 2 ^ 64)) / 2 ^ 7) < 2 ^ 64 := Nat.xor_lt_two_pow h1 (Nat.lt_of_le_of_lt (Nat.div_le_self ..) h1)
  exact Nat.xor_lt_two_pow h2 (Nat.mod_lt _ (by decide))
theorem stir_zero : stirN 0 = 0 := by decide

/-! ### the way back -/
/-- One round of the way back. -/
theorem xor_cancel (a b : Nat) : a ^^^ (b ^^^ a) = b := by rw [Nat.xor_comm b a, ← Nat.xor_assoc, Nat.xor_self, Nat.zero_xor]
theorem left_round (y e s : Nat) : (y ^^^ (y * 2 ^ s % 2 ^ 64)) ^^^ ((y ^^^ e) * 2 ^ s % 2 ^ 64) = y ^^^ (e * 2 ^ s % 2 ^ 64) := by
  rw [sl_xor, ← Nat.xor_assoc, Nat.xor_assoc y, Nat.xor_self, Nat.xor_zero]
theorem right_round (y e s : Nat) : (y ^^^ (y / 2 ^ s)) ^^^ ((y ^^^ e) / 2 ^ s) = y ^^^ (e / 2 ^ s) := by
  rw [sr_xor, ← Nat.xor_assoc, Nat.xor_assoc y, Nat.xor_self, Nat.xor_zero]
theorem sl_sl (y a b : Nat) : (y * 2 ^ a % 2 ^ 64) * 2 ^ b % 2 ^ 64 = y * 2 ^ (a + b) % 2 ^ 64 := by
  rw [Nat.pow_add, ← Nat.mul_assoc, Nat.mod_mul_mod]
theorem sr_sr (y a b : Nat) : (y / 2 ^ a) / 2 ^ b = y / 2 ^ (a + b) := by
  rw [Nat.div_div_eq_div_mul, ← Nat.pow_add]
theorem sl_big (y a : Nat) (h : 64 ≤ a) : y * 2 ^ a % 2 ^ 64 = 0 := by
  obtain ⟨b, rfl⟩ : ∃ b, a = b + 64 := ⟨a - 64, by omega⟩
  rw [Nat.pow_add, ← Nat.mul_assoc, Nat.mul_mod_left]
theorem sr_big {y a : Nat} (hy : y < 2 ^ 64) (h : 64 ≤ a) : y / 2 ^ a = 0 :=
  Nat.div_eq_of_lt (Nat.lt_of_lt_of_le hy (Nat.pow_le_pow_right (by decide) h))

/-! ### no three rounds without a hash -/
def xsum : List Nat → Nat → Nat
  | [], _ => 0
  | c :: cs, h => (if h.testBit 0 then c else 0) ^^^ xsum cs (h / 2)
theorem xsum_xor : ∀ (cs : List Nat) (x y : Nat), xsum cs (x ^^^ y) = xsum cs x ^^^ xsum cs y
  | [], _, _ => by simp [xsum]
  | c :: cs, x, y => by
    have e : (x ^^^ y) / 2 = (x / 2) ^^^ (y / 2) := sr_xor x y 1
    simp only [xsum]
    rw [e, xsum_xor cs, Nat.testBit_xor, xor4]
    congr 1
    cases x.testBit 0 <;> cases y.testBit 0 <;> simp
theorem xsum_zero : ∀ cs : List Nat, xsum cs 0 = 0
  | [] => rfl
  | c :: cs => by simp [xsum, xsum_zero cs]
def cA : List Nat := [6347525506726557635, 14305197531316517672, 18122267897599308177, 4530681095752983214, 14100101691680801553, 146108545595011983, 17863992986758358556, 675639347069734616, 6886808706352318864, 5479230892649062732, 5771931762946089749, 11543863525892179498, 9833141774239518168, 4510897064620755891, 14077736597214695723, 279362610344777723, 563228270628212727, 11509310747209009568, 3373827792216752361, 7387493066364604979, 15607162357081773290, 1104082699044294552, 17116882295621791068, 16212693873034197559, 13978643672358843502, 8125522113130887857, 16251044226261775714, 17883589556355741989, 247997728161054758, 14914903855918006720, 12938142827695608707]
def cB : List Nat := [17523395618357424748, 16595543013554996441, 14739837804084373939, 11685997208504672390, 655389470938330413, 16221765714112567350, 3535616562742428160, 7071233125484856320, 14142466250969712640, 9838188428229873664, 16354548940502262018, 8900234468096951369, 17804973085644204179, 2089786944324756298, 4184078038099814037, 8368156076199628074, 15236393834985974196, 16964895814464738343, 11578021965886582671, 4709299858063613726, 5380629199059615664, 3114899194046806317, 11915165447366524982, 5367802385263555330, 15669988599246070091, 4008727952352614202, 8017455904705228404, 3294638958531890821, 1599825759984658731, 1681718804080140726, 0]
def cC : List Nat := [4265428148487058400, 9609603406383510957, 17985069846033488182, 0, 0, 0, 0, 0, 0, 0, 0, 0, 0, 0, 0, 0, 0, 0, 0, 0, 0, 0, 0, 0, 0, 0, 0, 0, 0, 0, 0]
def back3 (x : Nat) : Nat := xsum cA (stirN x / 2 ^ 33) ^^^ (xsum cB (stirN (stirN x) / 2 ^ 33) ^^^ xsum cC (stirN (stirN (stirN x)) / 2 ^ 33))
theorem back3_xor (x y : Nat) : back3 (x ^^^ y) = back3 x ^^^ back3 y := by
  unfold back3
  rw [stir_xor x y, stir_xor (stirN x) (stirN y), stir_xor (stirN (stirN x)) (stirN (stirN y)), sr_xor, sr_xor, sr_xor, xsum_xor, xsum_xor, xsum_xor, xor4 (xsum cB _), xor4]
theorem back3_unit : ∀ i, i < 64 → back3 (2 ^ i) = 2 ^ i := by decide +kernel
theorem xor_id {f : Nat → Nat} (hx : ∀ x y, f (x ^^^ y) = f x ^^^ f y) (h0 : f 0 = 0) : ∀ n, (∀ i, i < n → f (2 ^ i) = 2 ^ i) → ∀ x, x < 2 ^ n → f x = x
  | 0, _, x, h => by
    have : x = 0 := by simpa using h
    rw [this, h0]
  | n + 1, hu, x, h => by
    by_cases hb : x < 2 ^ n
    · exact xor_id hx h0 n (fun i hi => hu i (by omega)) x hb
    · have hy : x ^^^ 2 ^ n < 2 ^ n := by
        apply Nat.lt_pow_two_of_testBit
        intro j hj
        rw [Nat.testBit_xor, Nat.testBit_two_pow]
        by_cases hjn : n = j
        · subst hjn
          have : x.testBit n = true := by
            rw [Nat.testBit_eq_decide_div_mod_eq]
            have h2 : 2 ^ (n + 1) = 2 ^ n * 2 := Nat.pow_succ ..
            have : x / 2 ^ n = 1 := Nat.div_eq_of_lt_le (by omega) (by omega)
            simp [this]
          simp [this]
        · have : x.testBit j = false := Nat.testBit_lt_two_pow (Nat.lt_of_lt_of_le h (Nat.pow_le_pow_right (by omega) (by omega)))
          simp [this, hjn]
      have e := xor_id hx h0 n (fun i hi => hu i (by omega)) _ hy
      have ex : x = (x ^^^ 2 ^ n) ^^^ 2 ^ n := by rw [Nat.xor_assoc, Nat.xor_self, Nat.xor_zero]
      rw [ex, hx, e, hu n (by omega)]
theorem back3_zero : back3 0 = 0 := by decide +kernel
theorem no_three {x : Nat} (h : x < 2 ^ 64) (h1 : stirN x / 2 ^ 33 = 0) (h2 : stirN (stirN x) / 2 ^ 33 = 0) (h3 : stirN (stirN (stirN x)) / 2 ^ 33 = 0) : x = 0 := by
  rw [← xor_id back3_xor back3_zero 64 back3_unit x h]
  unfold back3
  rw [h1, h2, h3, xsum_zero, xsum_zero, xsum_zero]; rfl
end Fut
