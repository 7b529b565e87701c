import Derived.Test.YthnlgcnbpngnpaaQ6
import Derived.Test.YthnlgcnbpngnpaaAlive
namespace Go.Proofs.Ythnlgcnbpngnpaa.Pure
open Go.RowKit Go.Proofs.Ythnlgcnbpngnpaa.Q Go.Proofs.YthnlgcnbpngnpaaW.PrintWords Go.Proofs.YthnlgcnbpngnpaaW.PrintLast
theorem pack_good (l : List Int) (hl : l.length ≤ 100000) (hB : badN (callsN l l.length) = false) : rle_Pack.f l = some (bsN (callsN l l.length), 0) := by
  unfold rle_Pack.f
  have h1 : ¬ l.length > 100000 := by omega
  have h2 : ¬ badN (callsN l l.length) = true := by rw [hB]; exact Bool.false_ne_true
  exact (if_neg h1).trans (if_neg h2)
theorem pack_bad (l : List Int) (hl : l.length ≤ 100000) (hB : badN (callsN l l.length) = true) : rle_Pack.f l = some ([], 1) := by
  unfold rle_Pack.f
  have h1 : ¬ l.length > 100000 := by omega
  exact (if_neg h1).trans (if_pos hB)
theorem runs_eq (l : List Int) (hl : l.length ≤ 100000) : rle_Runs.f l = some ((callsN l l.length).length : Int) := by
  unfold rle_Runs.f
  exact if_pos hl
def lawS (p : Option (List Int × Int)) (q : Option Int) (L : Int) : Option Bool :=
  p.bind fun b => if b.2 = 0 then (if (b.1.length : Int) ≤ wrap64 (L + 1) then q.bind fun t => (if (b.1.length : Int) ≥ wrap64 (t + 1) then some true else some false) else some false) else (if (b.1.length : Int) = 0 then some true else some false)
theorem lawS_good (B : List Int) (C L : Nat) (hl : L ≤ 2000) (h1 : B.length ≤ 1 + L) (h2 : C + 1 ≤ B.length) (h4 : C ≤ L) : lawS (some (B, 0)) (some (C : Int)) (L : Int) = some true := by
  have w1 : wrap64 ((L : Int) + 1) = (L : Int) + 1 := by unfold wrap64; omega
  have w2 : wrap64 ((C : Int) + 1) = (C : Int) + 1 := by unfold wrap64; omega
  have g1 : (B.length : Int) ≤ wrap64 ((L : Int) + 1) := by rw [w1]; clear w1 w2; omega
  have g2 : (B.length : Int) ≥ wrap64 ((C : Int) + 1) := by rw [w2]; clear w1 w2 g1; omega
  clear w1 w2
  unfold lawS
  generalize wrap64 ((L : Int) + 1) = W1 at g1
  refine (Option.bind_some _ _).trans ?_
  refine (if_pos (rfl : ((B, (0 : Int)).2) = 0)).trans ?_
  refine (if_pos g1).trans ?_
  refine (Option.bind_some _ _).trans ?_
  exact if_pos g2
theorem law_eq (l : List Int) (hl : l.length ≤ 2000) : futtocklaw34_RleShort.f l = lawS (rle_Pack.f l) (rle_Runs.f l) (l.length : Int) := by
  unfold futtocklaw34_RleShort.f
  rw [alive_true]
  have h : ¬ (l.length : Int) > 2000 := by omega
  exact if_neg h
theorem RleShort : futtocklaw34_RleShort.Pure := by
  intro l hm1 hm2 hm3
  clear hm1 hm2 hm3
  by_cases hl : l.length ≤ 2000
  · rw [law_eq l hl, runs_eq l (by omega)]
    cases hB : badN (callsN l l.length) with
    | true =>
      rw [pack_bad l (by omega) hB]
      rfl
    | false =>
      rw [pack_good l (by omega) hB]
      have h1 := bsN_len l l.length
      have h2 := bsN_many l l.length
      have h3 := fromN_le l l.length
      have h4 := callsN_length l l.length
      exact lawS_good _ _ _ hl (by omega) h2 h4
  · unfold futtocklaw34_RleShort.f
    rw [alive_true]
    have h : (l.length : Int) > 2000 := by omega
    exact if_pos h
end Go.Proofs.Ythnlgcnbpngnpaa.Pure
