/- Each operation of the model does what the plain machine's does: numbers' conversions, parts, places, cuts. No condition of their own. -/
import Derived.Test.YthcibbfljcfheaaAbs7
namespace Go.Proofs.Ythcibbfljcfheaa.Abs
set_option linter.unusedVariables false
set_option linter.unusedSimpArgs false
open Go.RowKit

section
variable {P : Program} {w0 : World} {ρ : Rn} {H : AH} {w : World}

theorem un_sound {op : UnOp} {x v : AV} (h : aUn op x = some v) {cx : Value} (hx : VRel ρ x cx) : (Op.unary op cx).run P w = .ok (sv v) w ∧ VRel ρ v (sv v) := by
  unfold aUn at h
  split at h <;> (try cases h) <;> (unfold VRel at hx; subst hx; exact ⟨rfl, by unfold VRel; rfl⟩)

theorem cvi_sound {src dst : TypeId} {j k : IntKind} (h1 : P.underlying src = some (.int j)) (h2 : P.underlying dst = some (.int k)) {k' : IntKind} {n : Int} :
    (convert src dst (.int k' n)).run P w = .ok (.int k (k.wrap n)) w := by
  simp only [convert, Sem.run_bind, run_underlying h1, run_underlying h2, Result.andThen_ok]
  rfl

theorem cvg_sound {src dst : TypeId} (h1 : P.underlying src = some .string) (h2 : P.underlying dst = some .string) {s : ByteArray} :
    (convert src dst (.string s)).run P w = .ok (.string s) w := by
  simp only [convert, Sem.run_bind, run_underlying h1, run_underlying h2, Result.andThen_ok]
  rfl

/-- A part of an aggregate. -/
theorem part_sound {T : TypeId} {n : Option Nat} (hT : cn P T = some n) {cs : List AV} {xs : Array Value} (hr : VRels ρ cs xs.toList) (h1 : ∀ a ∈ cs, a.one = true) {off : Nat} {v : AV} (h : apart n cs off = some v) :
    ∃ u, (part T xs off).run P w = .ok u w ∧ VRel ρ v u := by
  have hp := apart_rel hr h1 h
  have hT' := cn_spec hT w
  cases n with
  | some n =>
    dsimp only at hp hT'
    refine ⟨_, ?_, hp.2⟩
    have e : xs.extract off (off + n) = (List.take n (List.drop off xs.toList)).toArray := by
      apply Array.ext'
      simp [List.extract_eq_take_drop]
    simp only [part, Sem.run_bind, hT'.1, Result.andThen_ok, if_true, run_sizeOf' hT'.2, Sem.run_pure, e]
  | none =>
    dsimp only at hp hT'
    obtain ⟨u, hu, hv⟩ := hp.2
    refine ⟨u, ?_, hv⟩
    have hu' : xs[off]? = some u := by rw [← Array.getElem?_toList]; exact hu
    simp only [part, Sem.run_bind, hT'.1, Result.andThen_ok, Bool.false_eq_true, if_false, hu', Sem.run_pure]

theorem fd_sound {T : TypeId} {fs : Array Field} (hT : P.underlying T = some (.struct fs)) {j : Nat} {f : Field} (hf : fs[j]? = some f) {n : Option Nat} (hn : cn P f.type = some n) {cs : List AV} {c : Value} (hx : VRel ρ (.agg cs) c) {v : AV} (h : apart n cs f.offset = some v) :
    ∃ u, (Instr.field T c j).run P w = .ok u w ∧ VRel ρ v u := by
  unfold VRel at hx
  obtain ⟨xs, rfl, hr, h1⟩ := hx
  obtain ⟨u, hu, hv⟩ := part_sound (P := P) (w := w) hn hr h1 h
  refine ⟨u, ?_, hv⟩
  simp only [Instr.field, Sem.run_bind, run_underlying hT, Result.andThen_ok, hf, asAgg, Sem.run_pure, hu]

theorem fa_sound {T : TypeId} {fs : Array Field} (hT : P.underlying T = some (.struct fs)) {j : Nat} {f : Field} (hf : fs[j]? = some f) {n : Nat} (hn : csize P f.type = some (n + 1)) {b o : Nat} {c : Value} (hx : VRel ρ (.p (some (b, o))) c) :
    ∃ u, (Instr.fieldAt T c j).run P w = .ok u w ∧ VRel ρ (.p (some (b, o + f.offset))) u := by
  unfold VRel at hx
  obtain ⟨B, base, N, hb, rfl⟩ := hx
  refine ⟨.pointer (some ⟨B, base + o + f.offset, none⟩), ?_, ?_⟩
  · simp [Instr.fieldAt, run_underlying hT, hf, Instr.sureAddr, fieldPlace, run_sizeOf' hn, addr_add]
  · unfold VRel; exact ⟨B, base, N, hb, by rw [Nat.add_assoc]⟩

theorem ia_sound {T e : TypeId} (hT : P.underlying T = some (.slice e)) {n : Nat} (hn : csize P e = some n) {b o len lo : Nat} {ex : Bool} {sz : Nat} {k : IntKind} {j : Int} {c : Value} (hx : VRel ρ (.sl (some (b, o)) len lo ex sz) c) (hj : 0 ≤ j ∧ j < len) :
    ∃ u, (Instr.indexAt T c (.int k j)).run P w = .ok u w ∧ VRel ρ (.p (some (b, o + j.toNat * n))) u := by
  unfold VRel at hx
  obtain ⟨B, base, N, off, cap, hb, rfl, ho, _⟩ := hx
  have ho : off = base + o := by
    rcases ho with h | ⟨h, _⟩
    · exact h
    · omega
  refine ⟨.pointer (some ⟨B, off + j.toNat * n, none⟩), ?_, ?_⟩
  · simp only [Instr.indexAt, Sem.run_bind, asIntOf, Sem.run_pure, Result.andThen_ok, run_underlying hT, if_pos hj, run_sizeOf' hn, addr_add]
  · unfold VRel; exact ⟨B, base, N, hb, by rw [ho, Nat.add_assoc]⟩

theorem iaa_sound {T e : TypeId} {len : Nat} (hT : P.underlying T = some (.array len e)) {n : Nat} (hn : csize P e = some n) {b o : Nat} {k : IntKind} {j : Int} {c : Value} (hx : VRel ρ (.p (some (b, o))) c) (hj : 0 ≤ j ∧ j < len) :
    ∃ u, (Instr.indexAt T c (.int k j)).run P w = .ok u w ∧ VRel ρ (.p (some (b, o + j.toNat * n))) u := by
  unfold VRel at hx
  obtain ⟨B, base, N, hb, rfl⟩ := hx
  refine ⟨.pointer (some ⟨B, base + o + j.toNat * n, none⟩), ?_, ?_⟩
  · simp only [Instr.indexAt, Sem.run_bind, asIntOf, Sem.run_pure, Result.andThen_ok, run_underlying hT, Instr.sureAddr, if_pos hj, run_sizeOf' hn, addr_add]
  · unfold VRel; exact ⟨B, base, N, hb, by rw [Nat.add_assoc]⟩

theorem ix_sound {T e : TypeId} {len : Nat} (hT : P.underlying T = some (.array len e)) {n : Option Nat} (hn : cn P e = some n) {sz : Nat} (hsz : csize P e = some sz) {cs : List AV} {k : IntKind} {j : Int} {c : Value} (hx : VRel ρ (.agg cs) c) (hj : 0 ≤ j ∧ j < len) {v : AV} (h : apart n cs (j.toNat * sz) = some v) :
    ∃ u, (Instr.index T c (.int k j)).run P w = .ok u w ∧ VRel ρ v u := by
  unfold VRel at hx
  obtain ⟨xs, rfl, hr, h1⟩ := hx
  obtain ⟨u, hu, hv⟩ := part_sound (P := P) (w := w) hn hr h1 h
  refine ⟨u, ?_, hv⟩
  simp only [Instr.index, Sem.run_bind, asIntOf, Sem.run_pure, Result.andThen_ok, run_underlying hT, if_pos hj, run_sizeOf' hsz, hu]

theorem ixs_sound {T : TypeId} (hT : P.underlying T = some .string) {s : ByteArray} {k : IntKind} {j : Int} (h0 : 0 ≤ j) {c : UInt8} (h : s[j.toNat]? = some c) :
    (Instr.index T (.string s) (.int k j)).run P w = .ok (.int .u8 c.toNat) w := by
  simp only [Instr.index, Sem.run_bind, asIntOf, Sem.run_pure, Result.andThen_ok, run_underlying hT, if_pos h0, h]

theorem ext_sound {vs : List AV} {c : Value} (hx : VRel ρ (.tup vs) c) {j : Nat} {v : AV} (h : vs[j]? = some v) : ∃ u, (Instr.extract c j).run P w = .ok u w ∧ VRel ρ v u := by
  unfold VRel at hx
  obtain ⟨xs, rfl, hr⟩ := hx
  obtain ⟨u, hu, hv⟩ := hr.get _ h
  refine ⟨u, ?_, hv⟩
  have hu' : xs[j]? = some u := by rw [← Array.getElem?_toList]; exact hu
  simp only [Instr.extract, hu', Sem.run_pure]

def ORelV (ρ : Rn) : Option AV → Option Value → Prop
  | none, none => True
  | some a, some u => VRel ρ a u
  | _, _ => False

theorem bound_sound {v : Option AV} {d top m : Nat} {c : Option Value} (hr : ORelV ρ v c) (h : abound v d top = some m) (y : Nat) (hy : top ≤ y) (hd : v = none → d ≤ top) (code : BoundsCode) :
    (match c with
    | some x => (Instr.sliceBound x y code).run P w = .ok m w
    | none => m = d) ∧ m ≤ top := by
  cases v with
  | none =>
    cases c with
    | none => unfold abound at h; cases h; exact ⟨rfl, hd rfl⟩
    | some _ => exact hr.elim
  | some a =>
    cases c with
    | none => exact hr.elim
    | some u =>
      cases a <;> simp only [abound] at h <;> try cases h
      rename_i k j
      split at h
      · rename_i hj
        cases h
        unfold ORelV VRel at hr
        subst hr
        refine ⟨?_, by omega⟩
        simp only [Instr.sliceBound, Sem.run_bind, asIntOf, Sem.run_pure, Result.andThen_ok, if_pos (show 0 ≤ j ∧ j ≤ y from ⟨hj.1, by omega⟩)]
      · cases h

/-- A cut of a slice. -/
theorem cut_sound {n : Nat} {a : Option (Nat × Nat)} {len lo : Nat} {ex : Bool} {sz : Nat} {c : Option Addr} {cap : Nat} (hx : VRel ρ (.sl a len lo ex sz) (.slice c len cap)) (hsz : sz = n ∨ a = none) {l h : Nat} (hl : l ≤ h) (hh : h ≤ lo) :
    VRel ρ (acut n a l h lo ex) (.slice (if cap = l then c else c.map (·.add (l * n))) (h - l) (cap - l)) := by
  cases a with
  | none =>
    unfold VRel at hx
    obtain ⟨rfl, rfl, rfl, hv⟩ := hx
    cases hv
    unfold acut VRel
    refine ⟨rfl, rfl, rfl, ?_⟩
    have : h = 0 := by omega
    subst this
    simp
  | some a =>
    obtain ⟨b, o⟩ := a
    unfold VRel at hx
    obtain ⟨B, base, N, off, cap', hb, hv, ho, h1, h2, h3, h4⟩ := hx
    cases hv
    have hsz : sz = n := by rcases hsz with h | h; exact h; cases h
    subst hsz
    simp only [acut, Option.map_some, addr_add]
    by_cases hlm : l < lo
    · rw [if_pos hlm, if_neg (by omega)]
      unfold VRel
      have ho : off = base + o := by rcases ho with h | ⟨_, h⟩; exact h; omega
      refine ⟨B, base, N, off + l * sz, _, hb, rfl, Or.inl (by omega), by omega, by omega, ?_, ?_⟩
      · intro e; rw [h3 e]
      · have e : (cap - l) * sz + l * sz = cap * sz := by rw [← Nat.add_mul]; congr 1; omega
        omega
    · rw [if_neg hlm]
      have e1 : l = h := by omega
      have e2 : l = lo := by omega
      by_cases h0 : l = 0
      · rw [if_pos h0]
        subst h0
        have e3 : (if cap = 0 then some (⟨B, off, none⟩ : Addr) else some ⟨B, off + 0 * sz, none⟩) = some ⟨B, off, none⟩ := by simp
        rw [e3]
        unfold VRel
        refine ⟨B, base, N, off, cap, hb, by simp; omega, ?_, by omega, by omega, ?_, by omega⟩
        · exact Or.inr ⟨rfl, rfl⟩
        · intro e; rw [h3 e]; omega
      · rw [if_neg h0]
        cases ex with
        | true =>
          have e3 : cap = l := by rw [h3 rfl]; omega
          subst e3
          rw [if_pos rfl]
          unfold VRel
          refine ⟨B, base, N, off, 0, hb, by simp; omega, Or.inr ⟨rfl, rfl⟩, by omega, by omega, fun _ => rfl, by omega⟩
        | false =>
          by_cases e3 : cap = l
          · subst e3
            rw [if_pos rfl]
            unfold VRel
            refine ⟨B, base, N, off, 0, hb, by simp; omega, Or.inr ⟨rfl, rfl⟩, by omega, by omega, fun h => (by cases h), by omega⟩
          · rw [if_neg e3]
            unfold VRel
            refine ⟨B, base, N, off + l * sz, cap - l, hb, by congr 1; omega, Or.inr ⟨rfl, rfl⟩, by omega, by omega, fun h => (by cases h), ?_⟩
            have e : (cap - l) * sz + l * sz = cap * sz := by rw [← Nat.add_mul]; congr 1; omega
            omega

theorem sls_sound {T e : TypeId} (hT : P.underlying T = some (.slice e)) {n : Nat} (hn : csize P e = some n) {x v : AV} {lo hi mx : Option AV} (h : aslice n x lo hi mx = some v) {cx : Value} {clo chi cmx : Option Value}
    (hx : VRel ρ x cx) (hlo : ORelV ρ lo clo) (hhi : ORelV ρ hi chi) (hmx : ORelV ρ mx cmx) : ∃ u, (Instr.sliceAt T cx clo chi cmx).run P w = .ok u w ∧ VRel ρ v u := by
  unfold aslice at h
  split at h
  case h_2 => cases h
  rename_i a len lw ex sz
  split at h
  case isFalse => cases h
  rename_i hsz
  obtain ⟨c, cap, rfl, hl1, hl2, hl3⟩ : ∃ c cap, cx = .slice c len cap ∧ len ≤ lw ∧ lw ≤ cap ∧ (ex = true → cap = lw) := by
    cases a with
    | none => unfold VRel at hx; obtain ⟨rfl, rfl, rfl, rfl⟩ := hx; exact ⟨none, 0, rfl, by omega, by omega, fun _ => rfl⟩
    | some a => obtain ⟨b, o⟩ := a; unfold VRel at hx; obtain ⟨_, _, _, _, cap, _, rfl, _, h1, h2, h3, _⟩ := hx; exact ⟨_, cap, rfl, h1, h2.1, h3⟩
  split at h
  · -- no third bound
    cases cmx with
    | some _ => exact hmx.elim
    | none =>
      split at h
      case h_2 => cases h
      rename_i hh hhe
      split at h
      case h_2 => cases h
      rename_i ll hle
      cases h
      have b1 := bound_sound (P := P) (w := w) hhi hhe cap (by omega) (fun _ => by omega) .sliceAcap
      have b2 := bound_sound (P := P) (w := w) hlo hle hh (Nat.le_refl _) (fun _ => by omega) .sliceB
      refine ⟨_, ?_, cut_sound hx hsz b2.2 b1.2⟩
      cases chi with
      | none =>
        have e1 : hh = len := b1.1
        subst e1
        cases clo with
        | none =>
          have e2 : ll = 0 := b2.1
          subst e2
          simp [Instr.sliceAt, Instr.slice, run_underlying hT, Instr.sliceBounds, run_sizeOf' hn]
        | some u =>
          simp [Instr.sliceAt, Instr.slice, run_underlying hT, Instr.sliceBounds, run_sizeOf' hn, b2.1]
      | some u1 =>
        cases clo with
        | none =>
          have e2 : ll = 0 := b2.1
          subst e2
          simp [Instr.sliceAt, Instr.slice, run_underlying hT, Instr.sliceBounds, run_sizeOf' hn, b1.1]
        | some u =>
          simp [Instr.sliceAt, Instr.slice, run_underlying hT, Instr.sliceBounds, run_sizeOf' hn, b1.1, b2.1]
  case h_3 => cases h
  · rename_i mx hi
    cases cmx with
    | none => exact hmx.elim
    | some um =>
      cases chi with
      | none => exact hhi.elim
      | some uh =>
        split at h
        case h_2 => cases h
        rename_i mm hme
        split at h
        case h_2 => cases h
        rename_i hh hhe
        split at h
        case h_2 => cases h
        rename_i ll hle
        cases h
        have b0 := bound_sound (P := P) (w := w) (v := some mx) (c := some um) hmx hme cap (by omega) (fun h => by cases h) .slice3Acap
        have b1 := bound_sound (P := P) (w := w) (v := some hi) (c := some uh) hhi hhe mm (Nat.le_refl _) (fun h => by cases h) .slice3B
        have b2 := bound_sound (P := P) (w := w) hlo hle hh (Nat.le_refl _) (fun _ => by omega) .slice3C
        have hx' : VRel ρ (.sl a len mm true sz) (.slice c len mm) ∨ True := Or.inr trivial
        refine ⟨.slice (if mm = ll then c else c.map (·.add (ll * n))) (hh - ll) (mm - ll), ?_, ?_⟩
        · cases clo with
          | none =>
            have e2 : ll = 0 := b2.1
            subst e2
            simp [Instr.sliceAt, Instr.slice, run_underlying hT, Instr.sliceBounds, run_sizeOf' hn, b0.1, b1.1]
          | some u =>
            simp [Instr.sliceAt, Instr.slice, run_underlying hT, Instr.sliceBounds, run_sizeOf' hn, b0.1, b1.1, b2.1]
        · cases a with
          | none =>
            unfold VRel at hx
            obtain ⟨rfl, rfl, rfl, hv⟩ := hx
            cases hv
            unfold acut VRel
            have e1 : mm = 0 := by omega
            have e2 : hh = 0 := by omega
            have e3 : ll = 0 := by omega
            subst e1; subst e2; subst e3
            exact ⟨rfl, rfl, rfl, rfl⟩
          | some a =>
            obtain ⟨b, o⟩ := a
            have hsz' : sz = n := by rcases hsz with h | h; exact h; cases h
            subst hsz'
            unfold VRel at hx
            obtain ⟨B, base, N, off, cap', hb, hv, ho, h1, h2, h3, h4⟩ := hx
            cases hv
            have hcap : mm * sz ≤ cap * sz := Nat.mul_le_mul_right _ (by omega)
            simp only [acut, Option.map_some, addr_add]
            by_cases hlm : ll < mm
            · rw [if_pos hlm, if_neg (by omega)]
              unfold VRel
              have ho : off = base + o := by rcases ho with h | ⟨_, h⟩; exact h; omega
              refine ⟨B, base, N, off + ll * sz, _, hb, rfl, Or.inl (by omega), by omega, by omega, fun _ => rfl, ?_⟩
              have e : (mm - ll) * sz + ll * sz = mm * sz := by rw [← Nat.add_mul]; congr 1; omega
              omega
            · have e1 : ll = mm := by omega
              have e2 : hh = mm := by omega
              subst e1
              subst e2
              rw [if_neg hlm, if_pos rfl]
              have e3 : ∀ k : Nat, (if k = 0 then AV.sl (some (b, o)) 0 0 true sz else .sl (some (b, o)) 0 0 true sz) = .sl (some (b, o)) 0 0 true sz := fun k => by split <;> rfl
              rw [e3]
              unfold VRel
              refine ⟨B, base, N, off, 0, hb, by simp, Or.inr ⟨rfl, rfl⟩, by omega, by omega, fun _ => rfl, by omega⟩

end
end Go.Proofs.Ythcibbfljcfheaa.Abs
