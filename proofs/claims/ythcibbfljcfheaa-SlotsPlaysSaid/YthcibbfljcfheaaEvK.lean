/- The machine with choices, step by step; a function known of by what it comes to. No condition of their own. -/
import Derived.Test.YthcibbfljcfheaaAbs22
import Derived.Test.YthcibbfljcfheaaQ0
import Derived.Test.YthcibbfljcfheaaSp
namespace Go.Proofs.Ythcibbfljcfheaa.Abs
set_option linter.unusedVariables false
set_option linter.unusedSimpArgs false
open Go.RowKit

section
variable {T : Tbl} {E : FuncId → Option AFun} {rd : Bool} {fn : AFun} {k : List AItem} {R : Out → Prop}

/-- Operations that need no choice, then others. -/
theorem Ev.pre {os : List AOper} : ∀ {ps : List AOper} {t t' : Nat → AV} {H H' : AH}, aops (callR T) ps t H = some (t', H') → Ev T E (.o os t' H') R → Ev T E (.o (ps ++ os) t H) R
  | [], t, t', H, H', h, hr => by unfold aops at h; cases h; exact hr
  | p :: ps, t, t', H, H', h, hr => by
    unfold aops at h
    split at h
    · rename_i hw
      split at h
      · rename_i v H1 ho
        exact .oop hw ho (Ev.pre h hr)
      · cases h
    · rename_i hw
      exact .ooff hw (Ev.pre h hr)
    · cases h

/-- What a region without a choice comes to, then the rest. -/
def EvR (T : Tbl) (E : FuncId → Option AFun) (rd : Bool) (fn : AFun) (k : List AItem) (R : Out → Prop) (r : Option ((Nat → AV) × AH)) : Prop := ∃ t' H', r = some (t', H') ∧ Ev T E (.k rd fn k t' H') R
theorem evR_some {t : Nat → AV} {H : AH} : EvR T E rd fn k R (some (t, H)) = Ev T E (.k rd fn k t H) R := by
  apply propext
  constructor
  · rintro ⟨t', H', e, h⟩; cases e; exact h
  · intro h; exact ⟨t, H, rfl, h⟩
theorem Ev.r {ops : List AOper} {t : Nat → AV} {H : AH} (h : EvR T E rd fn k R (aops (callR T) ops t H)) : Ev T E (.k rd fn (.code (.reg ops) :: k) t H) R := by
  obtain ⟨t', H', e, h⟩ := h
  refine .reg (R1 := fun o => o = .s t' H') ?_ ?_
  · have := Ev.pre (E := E) (R := fun o => o = .s t' H') (os := []) e (.onil rfl)
    rwa [List.append_nil] at this
  · rintro t1 H1 e
    cases e
    exact h
theorem Ev.d {ops : List (AOper × List Nat)} {t : Nat → AV} {H : AH} (h : EvR T E rd fn k R (adrw (callR T) ops t H [H] [])) : Ev T E (.k rd fn (.code (.drw ops) :: k) t H) R := by
  obtain ⟨t', H', e, h⟩ := h
  exact .drw e h
/-- What operations without a choice come to, then others. -/
def EvO (T : Tbl) (E : FuncId → Option AFun) (os : List AOper) (R : Out → Prop) (r : Option ((Nat → AV) × AH)) : Prop := ∃ t' H', r = some (t', H') ∧ Ev T E (.o os t' H') R
theorem evO_some {os : List AOper} {t : Nat → AV} {H : AH} : EvO T E os R (some (t, H)) = Ev T E (.o os t H) R := by
  apply propext
  constructor
  · rintro ⟨t', H', e, h⟩; cases e; exact h
  · intro h; exact ⟨t, H, rfl, h⟩
theorem Ev.p {os : List AOper} (n : Nat) {t : Nat → AV} {H : AH} (h : EvO T E (os.drop n) R (aops (callR T) (os.take n) t H)) : Ev T E (.o os t H) R := by
  obtain ⟨t', H', e, h⟩ := h
  have := Ev.pre e h
  rwa [List.take_append_drop] at this
/-- The end of a function. -/
def EvF (R : Out → Prop) (r : Option (AV × AH)) : Prop := ∃ v H', r = some (v, H') ∧ R (.v v H')
theorem evF_some {v : AV} {H : AH} : EvF R (some (v, H)) = R (.v v H) := by
  apply propext
  constructor
  · rintro ⟨t', H', e, h⟩; cases e; exact h
  · intro h; exact ⟨v, H, rfl, h⟩
theorem Ev.e {t : Nat → AV} {H : AH} (h : EvF R (afinish fn t H)) : Ev T E (.k false fn [] t H) R := by
  obtain ⟨v, H', e, h⟩ := h
  exact .fin e h
theorem Ev.q {t : Nat → AV} {H : AH} (h : EvF R (afinish fn t H)) : Ev T E (.k false fn (.code .ret :: k) t H) R := by
  obtain ⟨v, H', e, h⟩ := h
  exact .ret e h
/-- A condition. -/
theorem Ev.yes {c : AX} {a b : ACode} {t : Nat → AV} {H : AH} (hc : c.ev t = .b true) (h : Ev T E (.k rd fn (.code a :: k) t H) R) : Ev T E (.k rd fn (.code (.cond c a b) :: k) t H) R := .cond hc h
theorem Ev.no {c : AX} {a b : ACode} {t : Nat → AV} {H : AH} (hc : c.ev t = .b false) (h : Ev T E (.k rd fn (.code b :: k) t H) R) : Ev T E (.k rd fn (.code (.cond c a b) :: k) t H) R := .cond hc h
theorem Ev.mono {c : Cfg} {R1 R2 : Out → Prop} (h : Ev T E c R1) (hr : ∀ o, R1 o → R2 o) : Ev T E c R2 := by
  induction h generalizing R2 with
  | fin h hR => exact .fin h (hr _ hR)
  | seg hR => exact .seg (hr _ hR)
  | ret h hR => exact .ret h (hr _ hR)
  | inBlock h ih => exact .inBlock (ih hr)
  | inLoop h ih => exact .inLoop (ih hr)
  | skip h ih => exact .skip (ih hr)
  | seq h ih => exact .seq (ih hr)
  | block h ih => exact .block (ih hr)
  | loop h ih => exact .loop (ih hr)
  | cond hc h ih => exact .cond hc (ih hr)
  | exit hk h ih => exact .exit hk (ih hr)
  | reg ho h iho ih => exact .reg ho fun t' H' h1 => ih t' H' h1 hr
  | drw ho h ih => exact .drw ho (ih hr)
  | rf hf hc hq h ihc ih => exact .rf hf hc hq fun v H' h1 => ih v H' h1 hr
  | onil hR => exact .onil (hr _ hR)
  | ooff hw h ih => exact .ooff hw (ih hr)
  | oop hw hop h ih => exact .oop hw hop (ih hr)
  | ocall hw hop hc h ihc ih => exact .ocall hw hop hc fun v H' h1 => ih v H' h1 hr
  | ocallv hw hop hf hc h ihc ih => exact .ocallv hw hop hf hc fun v H' h1 => ih v H' h1 hr
  | oyield hw hop hf hc h ihc ih => exact .oyield hw hop hf hc fun v H' h1 => ih v H' h1 hr
  | onxt hw hop hx hi hm h0 h1 ih0 ih1 => exact .onxt hw hop hx hi hm (fun h => ih0 h hr) fun hn j n e a b c => ih1 hn j n e a b c hr
  | onxn hw hop hx hi h ih => exact .onxn hw hop hx hi (ih hr)
  | call hg hl h ih => exact .call hg hl (ih hr)
  | yield hl hn hp ha hq hb h iha ihb => exact .yield hl hn hp ha hq hb fun t2 H2 h1 => ⟨(h t2 H2 h1).1, hr _ (h t2 H2 h1).2⟩
end

/-- It comes to one thing, of which Q holds. -/
def EvX (T : Tbl) (E : FuncId → Option AFun) (c : Cfg) (Q : AV → AH → Prop) : Prop := ∃ v H', Ev T E c (fun o => o = .v v H') ∧ Q v H'
section
variable {T : Tbl} {E : FuncId → Option AFun} {rd : Bool} {fn : AFun} {k : List AItem} {Q : AV → AH → Prop}
theorem EvX.step {c c' : Cfg} (f : ∀ R, Ev T E c' R → Ev T E c R) (h : EvX T E c' Q) : EvX T E c Q := by
  obtain ⟨v, H', h1, h2⟩ := h
  exact ⟨v, H', f _ h1, h2⟩
theorem EvX.seq {a b : ACode} {t : Nat → AV} {H : AH} (h : EvX T E (.k rd fn (.code a :: .code b :: k) t H) Q) : EvX T E (.k rd fn (.code (.seq a b) :: k) t H) Q := .step (fun _ h => .seq h) h
theorem EvX.block {id : Nat} {a : ACode} {t : Nat → AV} {H : AH} (h : EvX T E (.k rd fn (.code a :: .inBlock id :: k) t H) Q) : EvX T E (.k rd fn (.code (.block id a) :: k) t H) Q := .step (fun _ h => .block h) h
theorem EvX.inBlock {id : Nat} {t : Nat → AV} {H : AH} (h : EvX T E (.k rd fn k t H) Q) : EvX T E (.k rd fn (.inBlock id :: k) t H) Q := .step (fun _ h => .inBlock h) h
theorem EvX.skip {t : Nat → AV} {H : AH} (h : EvX T E (.k rd fn k t H) Q) : EvX T E (.k rd fn (.code .skip :: k) t H) Q := .step (fun _ h => .skip h) h
theorem EvX.yes {c : AX} {a b : ACode} {t : Nat → AV} {H : AH} (hc : c.ev t = .b true) (h : EvX T E (.k rd fn (.code a :: k) t H) Q) : EvX T E (.k rd fn (.code (.cond c a b) :: k) t H) Q := .step (fun _ h => .yes hc h) h
theorem EvX.no {c : AX} {a b : ACode} {t : Nat → AV} {H : AH} (hc : c.ev t = .b false) (h : EvX T E (.k rd fn (.code b :: k) t H) Q) : EvX T E (.k rd fn (.code (.cond c a b) :: k) t H) Q := .step (fun _ h => .no hc h) h
def EvXR (T : Tbl) (E : FuncId → Option AFun) (rd : Bool) (fn : AFun) (k : List AItem) (Q : AV → AH → Prop) (r : Option ((Nat → AV) × AH)) : Prop := ∃ t' H', r = some (t', H') ∧ EvX T E (.k rd fn k t' H') Q
theorem evXR_some {t : Nat → AV} {H : AH} : EvXR T E rd fn k Q (some (t, H)) = EvX T E (.k rd fn k t H) Q := by
  apply propext
  constructor
  · rintro ⟨t', H', e, h⟩; cases e; exact h
  · intro h; exact ⟨t, H, rfl, h⟩
theorem EvX.r {ops : List AOper} {t : Nat → AV} {H : AH} (h : EvXR T E rd fn k Q (aops (callR T) ops t H)) : EvX T E (.k rd fn (.code (.reg ops) :: k) t H) Q := by
  obtain ⟨t', H', e, h⟩ := h
  exact .step (fun _ h => .r ⟨_, _, e, h⟩) h
theorem EvX.d {ops : List (AOper × List Nat)} {t : Nat → AV} {H : AH} (h : EvXR T E rd fn k Q (adrw (callR T) ops t H [H] [])) : EvX T E (.k rd fn (.code (.drw ops) :: k) t H) Q := by
  obtain ⟨t', H', e, h⟩ := h
  exact .step (fun _ h => .d ⟨_, _, e, h⟩) h
theorem EvX.q {t : Nat → AV} {H : AH} {v : AV} {H' : AH} (h : afinish fn t H = some (v, H')) (hQ : Q v H') : EvX T E (.k false fn (.code .ret :: k) t H) Q := ⟨v, H', .ret h rfl, hQ⟩
theorem EvX.call {f : FuncId} {args : List AV} {H : AH} {g : AFun} (hg : E f = some g) (hl : args.length ≤ g.nt) (h : EvX T E (.k false g [.code g.body] (ainit args) H) Q) : EvX T E (.c f args H) Q := .step (fun _ h => .call hg hl h) h
theorem EvX.rf {f : AX} {ps : List Nat} {a b : ACode} {t : Nat → AV} {H : AH} {g : FuncId} {first caps : List AV} (hf : f.ev t = .fn (.func g) first caps)
    (h : ∃ v1 H1, Ev T E (.c g (first ++ [.fn (.yield H.n) [] []] ++ caps) (H.new (.lp true fn.nt t ps a b))) (fun o => o = .v v1 H1) ∧ H1.o H.n = some (.lp true fn.nt t ps a b) ∧ EvX T E (.k false fn k t (H1.drop H.n)) Q) : EvX T E (.k false fn (.code (.rf f ps a b) :: k) t H) Q := by
  obtain ⟨v1, H1, h1, h2, h3⟩ := h
  exact .step (fun _ h => .rf hf h1 (fun v H' e => by cases e; exact h2) (fun v H' e => by cases e; exact h)) h3
end

/-- What is still to be done is left at its end alone. -/
def plainK : List AItem → Bool
  | [] => true
  | .code c :: k => c.plain && plainK k
  | .inLoop c :: k => c.plain && plainK k
  | .inBlock _ :: k => plainK k
theorem plain_exit {id : Nat} : ∀ {k k' : List AItem}, aexit id k = some k' → plainK k = true → plainK k' = true
  | [], _, h, _ => by simp [aexit] at h
  | .inBlock id' :: k, k', h, hp => by
    simp only [aexit] at h
    simp only [plainK] at hp
    split at h
    · cases h; exact hp
    · exact plain_exit h hp
  | .code c :: k, k', h, hp => by
    simp only [plainK, Bool.and_eq_true] at hp
    exact plain_exit (k := k) h hp.2
  | .inLoop c :: k, k', h, hp => by
    simp only [plainK, Bool.and_eq_true] at hp
    exact plain_exit (k := k) h hp.2
/-- A text without choices, in a round. -/
theorem det_seg {T : Tbl} {E : FuncId → Option AFun} : ∀ (n : Nat) {fn : AFun} {k : List AItem} {t : Nat → AV} {H : AH} {v : AV} {H' : AH}, arun T n fn k t H = some (v, H') → plainK k = true → Ev T E (.k true fn k t H) (fun o => ∃ t', o = .s t' H')
  | 0, _, _, _, _, _, _, h, _ => by simp [arun] at h
  | n + 1, fn, k, t, H, v, H', h, hp => by
    have hc := acall_CLe (T := T) n
    unfold arun at h
    dsimp only at h
    split at h
    · have := fin_same h
      subst this
      exact .seg ⟨_, rfl⟩
    · exact .inBlock (det_seg n h hp)
    · simp only [plainK, Bool.and_eq_true] at hp
      exact .inLoop (det_seg n h (by simp only [plainK, Bool.and_eq_true]; exact ⟨hp.1, hp⟩))
    · simp only [plainK, Bool.and_eq_true] at hp
      exact .skip (det_seg n h hp.2)
    · simp only [plainK, ACode.plain, Bool.and_eq_true] at hp
      exact .seq (det_seg n h (by simp only [plainK, Bool.and_eq_true]; exact ⟨hp.1.1, hp.1.2, hp.2⟩))
    · simp only [plainK, ACode.plain, Bool.and_eq_true] at hp
      split at h
      · rename_i z hz
        exact .cond hz (det_seg n h (by
          simp only [plainK, Bool.and_eq_true]
          refine ⟨?_, hp.2⟩
          split
          · exact hp.1.1
          · exact hp.1.2))
      · cases h
    · simp only [plainK, ACode.plain, Bool.and_eq_true] at hp
      exact .block (det_seg n h (by simp only [plainK, Bool.and_eq_true]; exact hp))
    · simp only [plainK, ACode.plain, Bool.and_eq_true] at hp
      exact .loop (det_seg n h (by simp only [plainK, Bool.and_eq_true]; exact ⟨hp.1, hp⟩))
    · simp only [plainK, ACode.plain, Bool.and_eq_true] at hp
      split at h
      · rename_i k' hk
        exact .exit hk (det_seg n h (plain_exit hk hp.2))
      · cases h
    · simp [plainK, ACode.plain] at hp
    · cases h
    · simp only [plainK, ACode.plain, Bool.and_eq_true] at hp
      split at h
      · rename_i t1 H1 ho
        exact .r ⟨_, _, aops_mono hc _ ho, det_seg n h hp.2⟩
      · cases h
    · simp only [plainK, ACode.plain, Bool.and_eq_true] at hp
      split at h
      · rename_i t1 H1 ho
        exact .d ⟨_, _, adrw_mono hc _ ho, det_seg n h hp.2⟩
      · cases h
theorem run_seg {T : Tbl} {E : FuncId → Option AFun} {fn : AFun} {k : List AItem} {t : Nat → AV} {H : AH} {v : AV} {H' : AH} (h : runR T fn k t H = some (v, H')) (hp : plainK k = true) : Ev T E (.k true fn k t H) (fun o => ∃ t', o = .s t' H') := by
  obtain ⟨n, hn⟩ := runR_some.1 h
  exact det_seg n hn hp

theorem mixed : Try.prog.follows .mixedOrders = true := by kernel_rfl
theorem Nz.refl {P : Program} {H : AH} {v : AV} {H' : AH} : Nz P H v H' v H' := fun w0 ρ ρ2 w w2 c _ h1 h2 h3 => ⟨ρ2, h1, h2, h3⟩

/-- What a call comes to, however is chosen. -/
def Goes (f : FuncId) (args : List AV) (H : AH) (v : AV) (H' : AH) : Prop := H.n ≤ H'.n ∧ ∃ R, Ev (tblP q0) tblE (.c f args H) R ∧ ∀ v2 H2, R (.v v2 H2) → Nz Try.prog H v2 H2 v H'
theorem Goes.one {f : FuncId} {args : List AV} {H : AH} {v : AV} {H' : AH} (hn : H.n ≤ H'.n) (h : Ev (tblP q0) tblE (.c f args H) (fun o => o = .v v H')) : Goes f args H v H' :=
  ⟨hn, _, h, fun v2 H2 e => by cases e; exact Nz.refl⟩

theorem Goes.of {f : FuncId} {args : List AV} {H : AH} {Q : AV → AH → Prop} (h : EvX (tblP q0) tblE (.c f args H) Q) (hn : ∀ v H', Q v H' → H.n ≤ H'.n) : ∃ v H', Goes f args H v H' ∧ Q v H' := by
  obtain ⟨v, H', h1, h2⟩ := h
  exact ⟨v, H', Goes.one (hn _ _ h2) h1, h2⟩

open Classical in
/-- Functions known of by what they come to: of which S says something. -/
noncomputable def pS (S : FuncId → List AV → AH → AV → AH → Prop) : PrimF := fun f args H => if h : ∃ x : AV × AH, S f args H x.1 x.2 ∧ Goes f args H x.1 x.2 then some (Classical.choose h) else none
theorem pS_some {S : FuncId → List AV → AH → AV → AH → Prop} {f : FuncId} {args : List AV} {H : AH} {v : AV} {H' : AH} (h : pS S f args H = some (v, H')) : S f args H v H' ∧ Goes f args H v H' := by
  unfold pS at h
  split at h
  · rename_i hx
    have := Classical.choose_spec hx
    injection h with h
    rw [h] at this
    exact this
  · cases h
theorem pS_of {S : FuncId → List AV → AH → AV → AH → Prop} {f : FuncId} {args : List AV} {H : AH} (h : ∃ v H', S f args H v H' ∧ Goes f args H v H') : ∃ v H', pS S f args H = some (v, H') ∧ S f args H v H' := by
  obtain ⟨v, H', h1, h2⟩ := h
  have hx : ∃ x : AV × AH, S f args H x.1 x.2 ∧ Goes f args H x.1 x.2 := ⟨(v, H'), h1, h2⟩
  refine ⟨(Classical.choose hx).1, (Classical.choose hx).2, ?_, (Classical.choose_spec hx).1⟩
  unfold pS
  rw [dif_pos hx]
noncomputable def qS (S : FuncId → List AV → AH → AV → AH → Prop) : Prm := ⟨pS S, fun f args H v H' h => (pS_some h).2.1⟩
theorem qS_ok (S : FuncId → List AV → AH → AV → AH → Prop) (w0 : World) : PrimOk Try.prog w0 (tblP (qS S)) := by
  intro f args H v H' hf h ρ w cargs hs hargs
  obtain ⟨_, _, R, h1, h2⟩ := pS_some (S := S) h
  exact calls_of_ev mixed (callR_sound mixed tblF_ok (q0_ok w0)) tblE_ok h1 h2 hs hargs
theorem qS_call {S : FuncId → List AV → AH → AV → AH → Prop} {f : FuncId} {args : List AV} {H : AH} (hf : tblF f = none) (h : ∃ v H', S f args H v H' ∧ Goes f args H v H') : ∃ v H', callR (tblP (qS S)) f args H = some (v, H') ∧ S f args H v H' := by
  obtain ⟨v, H', h1, h2⟩ := pS_of h
  refine ⟨v, H', ?_, h2⟩
  unfold callR
  have e : (tblP (qS S)).f f = none := hf
  rw [e]
  exact h1
end Go.Proofs.Ythcibbfljcfheaa.Abs
