/- The functions; SortedFunc over a map's keys, and the least value of a map, known of by what they come to. No condition of its own. -/
import Derived.Test.YtaolkpkaiidmeaaSorted
namespace Go.Proofs.Ytaolkpkaiidmeaa.Abs
open Go.RowKit
set_option linter.unusedVariables false
set_option linter.unusedSimpArgs false
def canonV (H : AH) (T : List P2) : AV := if T = [] then .sl none 0 0 true 0 else .sl (some (H.n, 0)) T.length T.length false 1
def canonH (H : AH) (T : List P2) : AH := if T = [] then H else H.new (.row false ((srtT T).map (AV.i .i64)))
theorem canon_n (H : AH) (T : List P2) : H.n ≤ (canonH H T).n := by unfold canonH; split <;> simp [AH_new_n]
theorem ints_rels (ρ : Rn) : ∀ l : List Int, VRels ρ (l.map (AV.i .i64)) (l.map (Value.int .i64))
  | [] => VRels.nil ρ
  | x :: l => VRels.cons (by unfold VRel; rfl) (ints_rels ρ l)
theorem sub_of {w0 : World} {ρ : Rn} {H H2 : AH} {w : World} (hs : Sim Try.prog w0 ρ H w) (k : Keeps H H2) : ∀ b o, H.o b = some o → H.o b = some o ∧ H2.o b = some o := by
  intro b o hb
  have hlt : b < H.n := by
    rcases Nat.lt_or_ge b H.n with h | h
    · exact h
    · obtain ⟨x, hx, _⟩ := hs.live b o hb
      rw [hs.fresh b h] at hx
      cases hx
  exact ⟨hb, (k.o hlt).trans hb⟩
theorem nz_sorted {H H2 : AH} {T : List P2} {v2 : AV} (h : SRes H T v2 H2) : Nz Try.prog H v2 H2 (canonV H T) (canonH H T) := by
  obtain ⟨k, h⟩ := h
  intro w0 ρ ρ2 w w2 c hs hv hs2 hf
  have hsub := sub_of hs k
  rcases h with ⟨hT, rfl⟩ | ⟨hT, b, ex, rfl, hb, hr⟩
  · obtain ⟨g1, g2⟩ := norm_same hs hs2 hf rfl hsub
    refine ⟨ρ, ?_, ?_, ?_⟩
    · unfold canonV
      rw [if_pos hT]
      unfold VRel at hv ⊢
      exact hv
    · unfold canonH; rw [if_pos hT]; exact g1
    · unfold canonH; rw [if_pos hT]; exact g2
  · have hne : T ≠ [] := fun e => by subst e; simp at hT
    obtain ⟨y, hy, g1, g2⟩ := norm_new hs hs2 hf rfl hsub hb hr ⟨_, ints_rels ρ (srtT T)⟩
    refine ⟨ρ.add H.n y, ?_, ?_, ?_⟩
    · unfold canonV
      rw [if_neg hne]
      unfold VRel at hv ⊢
      obtain ⟨B, base, N, off, cap, e1, e2, e3, e4, e5, e6, e7⟩ := hv
      rw [hy] at e1
      cases e1
      exact ⟨B, base, N, off, cap, Rn.add_self _ _ _, e2, e3, e4, e5, nofun, e7⟩
    · unfold canonH; rw [if_neg hne]; exact g1
    · unfold canonH; rw [if_neg hne]; exact g2
def nextV (T : List P2) : AV := if T = [] then .tup [.i .i64 0, .b false] else .tup [.i .i64 (minT T 1099511627776), .b true]
theorem nz_next {H H2 : AH} {T : List P2} (k : Keeps H H2) : Nz Try.prog H (nextV T) H2 (nextV T) H := by
  intro w0 ρ ρ2 w w2 c hs hv hs2 hf
  obtain ⟨g1, g2⟩ := norm_same hs hs2 hf rfl (sub_of hs k)
  refine ⟨ρ, ?_, g1, g2⟩
  unfold nextV at hv ⊢
  split at hv
  · rw [if_pos (by assumption)]
    unfold VRel VRels VRel VRels VRel VRels at hv ⊢
    exact hv
  · rw [if_neg (by assumption)]
    unfold VRel VRels VRel VRels VRel VRels at hv ⊢
    exact hv
/-- What is said of them. -/
def SSo (f : FuncId) (args : List AV) (H : AH) (v : AV) (H' : AH) : Prop :=
  (f = 24 ∧ ∀ (c e m cl : Nat) (now : Int) (all : List Nat) (T : List P2) (ro : Bool), args = [.fn (.func 30) [] [.p (some (c, 0))], .fn (.func 26) [.p (some (e, 0))] []] → H.o c = some (.row ro [.mp (some m)]) → H.o m = some (.mapo (mE (T.map kv)) (all, cl)) → Ck H e m now T → v = canonV H T ∧ H' = canonH H T) ∨
  (f = 11 ∧ (∀ (e m cl : Nat) (now : Int) (all : List Nat) (T : List P2), args = [.p (some (e, 0))] → H.o m = some (.mapo (mE (T.map kv)) (all, cl)) → Ck H e m now T → v = nextV T ∧ H' = H) ∧
    ∀ p : AV, args = [p] → callR (tblP q0) 21 [p] H = some (.i .i64 0, H) → v = .tup [.i .i64 0, .b false] ∧ H' = H)
noncomputable abbrev tbl : Tbl := tblP (qS SSo)
theorem prim_ok (w0 : World) : PrimOk Try.prog w0 tbl := qS_ok SSo w0
theorem kv_inj : ∀ {T T' : List P2}, mE (T.map kv) = mE (T'.map kv) → T = T'
  | [], [], _ => rfl
  | [], y :: T', h => by simp [mE] at h
  | x :: T, [], h => by simp [mE] at h
  | x :: T, y :: T', h => by
    unfold mE at h
    simp only [List.map_cons] at h
    injection h with h1 h2
    have := kv_inj (T := T) (T' := T') h2
    subst this
    obtain ⟨x1, x2⟩ := x
    obtain ⟨y1, y2⟩ := y
    simp [kv] at h1
    obtain ⟨rfl, rfl⟩ := h1
    rfl
theorem sorted_spec {H : AH} {c e m : Nat} {now : Int} {T : List P2} {ro : Bool} (hk : Ck H e m now T) (hc : H.o c = some (.row ro [.mp (some m)])) (hcl : c < H.n) :
    callR tbl 24 [.fn (.func 30) [] [.p (some (c, 0))], .fn (.func 26) [.p (some (e, 0))] []] H = some (canonV H T, canonH H T) := by
  obtain ⟨⟨all, cl⟩, hm, hb⟩ := hk.hm
  have hlen : all.length = T.length := by have := hb.len; simpa using this
  obtain ⟨v, H', e1, hS⟩ := qS_call (S := SSo) (f := 24) (args := [.fn (.func 30) [] [.p (some (c, 0))], .fn (.func 26) [.p (some (e, 0))] []]) (H := H) rfl ⟨canonV H T, canonH H T, Or.inl ⟨rfl, fun c' e' m' cl' now' all' T' ro' ea hc' hm' _ => by
    cases ea
    rw [hc] at hc'
    cases hc'
    rw [hm] at hm'
    injection hm' with hm'
    injection hm' with h1 h2
    rw [kv_inj h1]
    exact ⟨rfl, rfl⟩⟩, canon_n H T, _, sorted_ev hk hc hcl hm hlen, fun v2 H2 h => by
      obtain ⟨v3, H3, e, h3⟩ := h
      cases e
      exact nz_sorted h3⟩
  rcases hS with ⟨_, hs⟩ | ⟨h, _⟩
  · obtain ⟨rfl, rfl⟩ := hs c e m cl now all T ro rfl hc hm hk
    exact e1
  · cases h
theorem next_ev0 {H : AH} {p : AV} (h : callR (tblP q0) 21 [p] H = some (.i .i64 0, H)) : Ev (tblP q0) tblE (.c 11 [p] H) (fun o => o = .v (.tup [.i .i64 0, .b false]) H) := by
  have c1 : ((0 : Int) == 0) = true := by decide
  refine .call (g := a11) rfl (Nat.le_of_ble_eq_true rfl) ?_
  rw [b11]
  refine .seq (.r ?_)
  simp only [d11_0, aops_cons, aop, ev_c, thenOps_some, put_some, aops_nil, evR_some]
  refine .seq (.seq (.r ?_))
  simp only [d11_1, aops_cons, aop, ev_t, upd_get, reduceCtorEq, ↓reduceIte, ainit_get, List.getD_cons_zero, thenOps_some, put_some, asX_cons, asX_nil, h, aBin, ev_c, BinOp.isShift, Bool.false_eq_true, or_true, aInt_eql, beq_self_eq_true, withH_some', aops_nil, evR_some]
  refine .yes (by simp only [ev_t, upd_get, ↓reduceIte]) (.seq (.r ?_))
  simp only [d11_2, aops_cons, aop, ev_c, thenOps_some, put_some, aops_nil, evR_some]
  refine .q ?_
  simp only [afinish_def, s11, aresults, aresult, upd_get, Nat.reduceEqDiff, ↓reduceIte, aback, evF_some]
theorem len_0 {H : AH} {e m : Nat} {now : Int} {T : List P2} (hk : Ck H e m now T) (h : callR (tblP q0) 21 [.p (some (e, 0))] H = some (.i .i64 0, H)) : T = [] := by
  rw [len_spec' (q := q0) hk] at h
  injection h with h
  injection h with h _
  injection h with _ h
  exact List.length_eq_zero_iff.1 (by omega)
theorem next_spec0 {H : AH} {p : AV} (h : callR (tblP q0) 21 [p] H = some (.i .i64 0, H)) : callR tbl 11 [p] H = some (.tup [.i .i64 0, .b false], H) := by
  obtain ⟨v, H', e1, hS⟩ := qS_call (S := SSo) (f := 11) (args := [p]) (H := H) rfl ⟨.tup [.i .i64 0, .b false], H, Or.inr ⟨rfl, fun e m cl now all T ea hm hk => by
    cases ea
    rw [len_0 hk h]
    exact ⟨rfl, rfl⟩, fun _ _ _ => ⟨rfl, rfl⟩⟩, Goes.one (Nat.le_refl _) (next_ev0 h)⟩
  rcases hS with ⟨h', _⟩ | ⟨_, _, hs⟩
  · cases h'
  · obtain ⟨rfl, rfl⟩ := hs p rfl h
    exact e1
theorem next_spec' {H : AH} {e m : Nat} {now : Int} {T : List P2} (hk : Ck H e m now T) : callR tbl 11 [.p (some (e, 0))] H = some (nextV T, H) := by
  obtain ⟨⟨all, cl⟩, hm, hb⟩ := hk.hm
  have hlen : all.length = T.length := by have := hb.len; simpa using this
  obtain ⟨v, H', e1, hS⟩ := qS_call (S := SSo) (f := 11) (args := [.p (some (e, 0))]) (H := H) rfl ⟨nextV T, H, Or.inr ⟨rfl, fun e' m' cl' now' all' T' ea hm' hk' => by
    cases ea
    have h1 := hk.he
    rw [hk'.he] at h1
    cases h1
    rw [hm] at hm'
    injection hm' with hm'
    injection hm' with h1 h2
    rw [kv_inj h1]
    exact ⟨rfl, rfl⟩, fun p ea h => by
    cases ea
    rw [len_0 hk h]
    exact ⟨rfl, rfl⟩⟩, Nat.le_refl _, _, next_ev hk hm hlen, fun v2 H2 h => by
      obtain ⟨H3, e, h3⟩ := h
      cases e
      exact nz_next h3⟩
  rcases hS with ⟨h, _⟩ | ⟨_, hs, _⟩
  · cases h
  · obtain ⟨rfl, rfl⟩ := hs e m cl now all T rfl hm hk
    exact e1
end Go.Proofs.Ytaolkpkaiidmeaa.Abs
