/- How the plain machine's values and objects stand for the model's: the relation, and what keeps it. No condition of their own. -/
import Derived.Test.YthcibbfljcfheaaAbs3
import Derived.Laws.CopyRow
import Derived.Laws.Cells
import Derived.Laws.Entries
namespace Go.Proofs.Ythcibbfljcfheaa.Abs
set_option linter.unusedVariables false

/-- Names: for each the block, the place in it, and how many cells the block has. -/
abbrev Rn := Nat → Option (Nat × Nat × Nat)

mutual
def VRel (ρ : Rn) : AV → Value → Prop
  | .b x, v => v = .bool x
  | .i k n, v => v = .int k n
  | .s x, v => v = .string x
  | .p none, v => v = .pointer none
  | .p (some (b, o)), v => ∃ B base N, ρ b = some (B, base, N) ∧ v = .pointer (some ⟨B, base + o, none⟩)
  | .sl none len lo ex sz, v => len = 0 ∧ lo = 0 ∧ ex = true ∧ v = .slice none 0 0
  | .sl (some (b, o)) len lo ex sz, v => ∃ B base N off c, ρ b = some (B, base, N) ∧ v = .slice (some ⟨B, off, none⟩) len c ∧ (off = base + o ∨ (len = 0 ∧ lo = 0)) ∧ len ≤ lo ∧ (lo ≤ c ∧ (sz = 1 → c ≤ 9223372036854775807)) ∧ (ex = true → c = lo) ∧ off + c * sz ≤ N
  | .fn f first caps, v => match f with
    | .yield l => ∃ B base N, ρ l = some (B, base, N) ∧ first = [] ∧ caps = [] ∧ v = .func (.yield B) #[] #[]
    | f => ∃ xs ys, v = .func f xs ys ∧ VRels ρ first xs.toList ∧ VRels ρ caps ys.toList
  | .nf, v => v = .nilFunc
  | .ni, v => v = .nilIface
  | .ifc t x, v => ∃ y, v = .iface t y ∧ VRel ρ x y
  | .agg cs, v => ∃ xs, v = .agg xs ∧ VRels ρ cs xs.toList ∧ ∀ c ∈ cs, c.one = true
  | .tup vs, v => ∃ xs, v = .tuple xs ∧ VRels ρ vs xs.toList
  | .mp none, v => v = .map none
  | .mp (some b), v => ∃ B base N, ρ b = some (B, base, N) ∧ v = .map (some B)
  | .un, v => v.oneCell' = true ∧ v.cells = #[v]
  | .em, v => ∃ a c, v = .slice (some a) 0 c
def VRels (ρ : Rn) : List AV → List Value → Prop
  | [], vs => vs = []
  | a :: as, vs => ∃ v vs', vs = v :: vs' ∧ VRel ρ a v ∧ VRels ρ as vs'
end

def Ext (ρ ρ' : Rn) : Prop := ∀ b x, ρ b = some x → ρ' b = some x

theorem Ext.refl (ρ : Rn) : Ext ρ ρ := fun _ _ h => h
theorem Ext.trans {a b c : Rn} (h : Ext a b) (k : Ext b c) : Ext a c := fun x y e => k _ _ (h _ _ e)

mutual
theorem VRel.ext {ρ ρ' : Rn} (h : Ext ρ ρ') : ∀ (a : AV) {v : Value}, VRel ρ a v → VRel ρ' a v
  | .b _, _, hv => by unfold VRel at hv ⊢; exact hv
  | .i _ _, _, hv => by unfold VRel at hv ⊢; exact hv
  | .s _, _, hv => by unfold VRel at hv ⊢; exact hv
  | .p none, _, hv => by unfold VRel at hv ⊢; exact hv
  | .p (some (b, o)), _, hv => by
    unfold VRel at hv ⊢
    obtain ⟨B, base, N, h1, h2⟩ := hv
    exact ⟨B, base, N, h _ _ h1, h2⟩
  | .sl none _ _ _ _, _, hv => by unfold VRel at hv ⊢; exact hv
  | .sl (some (b, o)) _ _ _ _, _, hv => by
    unfold VRel at hv ⊢
    obtain ⟨B, base, N, off, c, h1, h2⟩ := hv
    exact ⟨B, base, N, off, c, h _ _ h1, h2⟩
  | .fn f first caps, _, hv => by
    cases f <;> unfold VRel at hv ⊢
    case yield l =>
      obtain ⟨B, base, N, h1, h2⟩ := hv
      exact ⟨B, base, N, h _ _ h1, h2⟩
    all_goals
      obtain ⟨xs, ys, h1, h2, h3⟩ := hv
      exact ⟨xs, ys, h1, VRels.ext h first h2, VRels.ext h caps h3⟩
  | .nf, _, hv => by unfold VRel at hv ⊢; exact hv
  | .ni, _, hv => by unfold VRel at hv ⊢; exact hv
  | .ifc t x, _, hv => by
    unfold VRel at hv ⊢
    obtain ⟨y, h1, h2⟩ := hv
    exact ⟨y, h1, VRel.ext h x h2⟩
  | .agg cs, _, hv => by
    unfold VRel at hv ⊢
    obtain ⟨xs, h1, h2, h3⟩ := hv
    exact ⟨xs, h1, VRels.ext h cs h2, h3⟩
  | .tup vs, _, hv => by
    unfold VRel at hv ⊢
    obtain ⟨xs, h1, h2⟩ := hv
    exact ⟨xs, h1, VRels.ext h vs h2⟩
  | .mp none, _, hv => by unfold VRel at hv ⊢; exact hv
  | .mp (some b), _, hv => by
    unfold VRel at hv ⊢
    obtain ⟨B, base, N, h1, h2⟩ := hv
    exact ⟨B, base, N, h _ _ h1, h2⟩
  | .un, _, hv => by unfold VRel at hv ⊢; exact hv
  | .em, _, hv => by unfold VRel at hv ⊢; exact hv
theorem VRels.ext {ρ ρ' : Rn} (h : Ext ρ ρ') : ∀ (as : List AV) {vs : List Value}, VRels ρ as vs → VRels ρ' as vs
  | [], _, hv => by unfold VRels at hv ⊢; exact hv
  | a :: as, _, hv => by
    unfold VRels at hv ⊢
    obtain ⟨v, vs', h1, h2, h3⟩ := hv
    exact ⟨v, vs', h1, VRel.ext h a h2, VRels.ext h as h3⟩
end

theorem VRels.nil (ρ : Rn) : VRels ρ [] [] := by unfold VRels; rfl
theorem VRels.cons {ρ : Rn} {a : AV} {as : List AV} {v : Value} {vs : List Value} (h : VRel ρ a v) (hs : VRels ρ as vs) : VRels ρ (a :: as) (v :: vs) := by
  unfold VRels; exact ⟨v, vs, rfl, h, hs⟩
theorem VRels.length {ρ : Rn} : ∀ {as : List AV} {vs : List Value}, VRels ρ as vs → as.length = vs.length
  | [], vs, h => by unfold VRels at h; rw [h]; rfl
  | a :: as, vs, h => by
    unfold VRels at h
    obtain ⟨v, vs', rfl, _, h3⟩ := h
    simp [VRels.length h3]
theorem VRels.append {ρ : Rn} : ∀ {as : List AV} {vs : List Value} {bs : List AV} {us : List Value}, VRels ρ as vs → VRels ρ bs us → VRels ρ (as ++ bs) (vs ++ us)
  | [], vs, bs, us, h, k => by unfold VRels at h; rw [h]; exact k
  | a :: as, vs, bs, us, h, k => by
    unfold VRels at h
    obtain ⟨v, vs', rfl, h2, h3⟩ := h
    exact VRels.cons h2 (VRels.append h3 k)
theorem VRels.take {ρ : Rn} : ∀ (n : Nat) {as : List AV} {vs : List Value}, VRels ρ as vs → VRels ρ (as.take n) (vs.take n)
  | 0, as, vs, _ => by simpa using VRels.nil ρ
  | n + 1, [], vs, h => by unfold VRels at h; rw [h]; simpa using VRels.nil ρ
  | n + 1, a :: as, vs, h => by
    unfold VRels at h
    obtain ⟨v, vs', rfl, h2, h3⟩ := h
    exact VRels.cons h2 (VRels.take n h3)
theorem VRels.drop {ρ : Rn} : ∀ (n : Nat) {as : List AV} {vs : List Value}, VRels ρ as vs → VRels ρ (as.drop n) (vs.drop n)
  | 0, as, vs, h => by simpa using h
  | n + 1, [], vs, h => by unfold VRels at h; rw [h]; simpa using VRels.nil ρ
  | n + 1, a :: as, vs, h => by
    unfold VRels at h
    obtain ⟨v, vs', rfl, h2, h3⟩ := h
    exact VRels.drop n h3
theorem VRels.get {ρ : Rn} : ∀ (j : Nat) {as : List AV} {vs : List Value} {a : AV}, VRels ρ as vs → as[j]? = some a → ∃ v, vs[j]? = some v ∧ VRel ρ a v
  | j, [], vs, a, h, e => by simp at e
  | 0, a :: as, vs, a', h, e => by
    unfold VRels at h
    obtain ⟨v, vs', rfl, h2, h3⟩ := h
    simp at e
    subst e
    exact ⟨v, rfl, h2⟩
  | j + 1, a :: as, vs, a', h, e => by
    unfold VRels at h
    obtain ⟨v, vs', rfl, h2, h3⟩ := h
    exact VRels.get j h3 (by simpa using e)
theorem VRels.back {ρ : Rn} : ∀ (j : Nat) {as : List AV} {vs : List Value} {v : Value}, VRels ρ as vs → vs[j]? = some v → ∃ a, as[j]? = some a ∧ VRel ρ a v
  | j, [], vs, v, h, e => by unfold VRels at h; rw [h] at e; simp at e
  | 0, a :: as, vs, v', h, e => by
    unfold VRels at h
    obtain ⟨v, vs', rfl, h2, h3⟩ := h
    simp at e
    subst e
    exact ⟨a, rfl, h2⟩
  | j + 1, a :: as, vs, v', h, e => by
    unfold VRels at h
    obtain ⟨v, vs', rfl, h2, h3⟩ := h
    exact VRels.back j h3 (by simpa using e)

theorem VRel.one {ρ : Rn} {a : AV} {v : Value} (h : VRel ρ a v) (h1 : a.one = true) : v.oneCell' = true ∧ v.cells = #[v] := by
  cases a <;> simp [AV.one] at h1 <;> (try (unfold VRel at h; subst h; exact ⟨rfl, rfl⟩))
  case p a => cases a with
    | none => unfold VRel at h; subst h; exact ⟨rfl, rfl⟩
    | some x => obtain ⟨b, o⟩ := x; unfold VRel at h; obtain ⟨_, _, _, _, rfl⟩ := h; exact ⟨rfl, rfl⟩
  case sl a _ _ _ _ => cases a with
    | none => unfold VRel at h; obtain ⟨_, _, _, rfl⟩ := h; exact ⟨rfl, rfl⟩
    | some x => obtain ⟨b, o⟩ := x; unfold VRel at h; obtain ⟨_, _, _, _, _, _, rfl, _⟩ := h; exact ⟨rfl, rfl⟩
  case fn f _ _ =>
    cases f <;> unfold VRel at h
    case yield l => obtain ⟨_, _, _, _, _, _, rfl⟩ := h; exact ⟨rfl, rfl⟩
    all_goals obtain ⟨_, _, rfl, _⟩ := h; exact ⟨rfl, rfl⟩
  case ifc => unfold VRel at h; obtain ⟨_, rfl, _⟩ := h; exact ⟨rfl, rfl⟩
  case mp r => cases r with
    | none => unfold VRel at h; subst h; exact ⟨rfl, rfl⟩
    | some b => unfold VRel at h; obtain ⟨_, _, _, _, rfl⟩ := h; exact ⟨rfl, rfl⟩
  case un => unfold VRel at h; exact h
  case em => unfold VRel at h; obtain ⟨_, _, rfl⟩ := h; exact ⟨rfl, rfl⟩

theorem VRel.fn_is {ρ : Rn} {f : Fn} {first caps : List AV} {v : Value} (h : VRel ρ (.fn f first caps) v) : ∃ g xs ys, v = .func g xs ys := by
  cases f <;> unfold VRel at h
  case yield l => obtain ⟨_, _, _, _, _, _, rfl⟩ := h; exact ⟨_, _, _, rfl⟩
  all_goals obtain ⟨_, _, rfl, _⟩ := h; exact ⟨_, _, _, rfl⟩

/-- The cells of a value that is no tuple. -/
theorem VRel.cells {ρ : Rn} {a : AV} {v : Value} (h : VRel ρ a v) (h1 : ∀ vs, a ≠ .tup vs) : VRels ρ a.cells v.cells.toList ∧ (∀ c ∈ a.cells, c.one = true) := by
  by_cases ho : a.one = true
  · have h2 := h.one ho
    have hc : a.cells = [a] := by cases a <;> simp [AV.one] at ho <;> rfl
    rw [hc, h2.2]
    exact ⟨VRels.cons h (VRels.nil ρ), by simpa using ho⟩
  · cases a <;> simp [AV.one] at ho
    case agg cs => unfold VRel at h; obtain ⟨xs, rfl, h2, h3⟩ := h; exact ⟨h2, h3⟩
    case tup vs => exact absurd rfl (h1 vs)

theorem VRels.oneCell {ρ : Rn} {as : List AV} {vs : List Value} (h : VRels ρ as vs) (h1 : ∀ c ∈ as, c.one = true) : ∀ v ∈ vs, v.oneCell' = true := by
  intro v hv
  obtain ⟨j, hj⟩ := List.getElem?_of_mem hv
  obtain ⟨a, ha, hr⟩ := h.back j hj
  exact (hr.one (h1 a (List.mem_of_getElem? ha))).1

theorem toAV1_rel {ρ : Rn} {v : Value} {a : AV} (h : toAV1 v = some a) : VRel ρ a v ∧ a.one = true := by
  unfold toAV1 at h
  split at h <;> (try cases h) <;> (unfold VRel; simp [AV.one])

theorem toAVs_rel {ρ : Rn} : ∀ {vs : List Value} {as : List AV}, toAVs vs = some as → VRels ρ as vs ∧ ∀ c ∈ as, c.one = true
  | [], as, h => by unfold toAVs at h; cases h; exact ⟨VRels.nil ρ, by simp⟩
  | v :: vs, as, h => by
    unfold toAVs at h
    split at h
    · rename_i a as' h1 h2
      cases h
      have i1 := toAV1_rel (ρ := ρ) h1
      have i2 := toAVs_rel (ρ := ρ) h2
      refine ⟨VRels.cons i1.1 i2.1, ?_⟩
      intro c hc
      rcases List.mem_cons.mp hc with rfl | hc
      · exact i1.2
      · exact i2.2 c hc
    · cases h

theorem undef_rel (ρ : Rn) : VRel ρ undefA undef := by unfold undefA VRel; exact ⟨#[], rfl, VRels.nil ρ⟩

theorem toAV_rel {ρ : Rn} {v : Value} {a : AV} (h : toAV v = some a) : VRel ρ a v := by
  unfold toAV at h
  split at h
  · rename_i cs
    cases hc : toAVs cs.toList with
    | none => rw [hc] at h; cases h
    | some as =>
      rw [hc] at h
      cases h
      have := toAVs_rel (ρ := ρ) hc
      unfold VRel
      exact ⟨cs, rfl, this.1, this.2⟩
  · rename_i vs
    split at h
    · rename_i hs
      cases h
      have : vs = #[] := by simpa using hs
      subst this
      exact undef_rel ρ
    · cases h
  · exact (toAV1_rel h).1

/-- The births of a map's entries: each once, and each ahead of the clock. -/
def BcOk (bc : List Nat × Nat) : Prop := bc.1.Nodup ∧ ∀ n ∈ bc.1, n < bc.2

theorem BcOk.push {l : List Nat} {c : Nat} (h : BcOk (l, c)) : BcOk (l ++ [c], c + 1) := by
  refine ⟨List.nodup_append.2 ⟨h.1, by simp, ?_⟩, ?_⟩
  · intro a ha b hb e
    simp only [List.mem_singleton] at hb
    subst hb; subst e
    exact Nat.lt_irrefl _ (h.2 _ ha)
  · intro n hn
    rcases List.mem_append.1 hn with hn | hn
    · exact Nat.lt_succ_of_lt (h.2 n hn)
    · simp only [List.mem_singleton] at hn
      subst hn
      exact Nat.lt_succ_self _
theorem BcOk.erase {l : List Nat} {c i : Nat} (h : BcOk (l, c)) : BcOk (l.eraseIdx i, c) := ⟨h.1.sublist (List.eraseIdx_sublist ..), fun n hn => h.2 n (List.mem_of_mem_eraseIdx hn)⟩

/-- How an object lies in memory. -/
def ORel (P : Program) (ρ : Rn) (x : Nat × Nat × Nat) (w : World) : AObj → Prop
  | .row ro cs => ∃ c e f, w.heap[x.1]? = some (.cells c e f) ∧ (ro = false → f = (0, 0) ∧ c.size = x.2.2 ∧ x.2.1 + cs.length ≤ x.2.2) ∧ VRels ρ cs ((c.toList.drop x.2.1).take cs.length) ∧ ∀ a ∈ cs, a.one = true
  | .mapo es bc => ∃ en cl, w.heap[x.1]? = some (.map en cl) ∧ VRels ρ (es.map (·.1)) (en.toList.map (·.key)) ∧ VRels ρ (es.map (·.2)) (en.toList.map (·.val)) ∧ (∀ a ∈ es, (∀ vs, a.1 ≠ .tup vs)) ∧ (∀ a ∈ es, (∀ vs, a.2 ≠ .tup vs)) ∧ bc = (en.toList.map (·.born), cl) ∧ BcOk bc
  | .lp rdy nt t ps a b => ∃ L : Loop, w.heap[x.1]? = some (.loop L) ∧ (L.state = if rdy then .ready else .busy) ∧ L.pending = none ∧ (∀ k, VRel ρ (t k) (L.tmps.getD k undef)) ∧ L.tmps.size = nt ∧ L.params.toList = ps ∧ ccode P nt L.assign = some a ∧ ccode P nt L.body = some b
  | .it none cl all left cur => x.2.1 = 0 ∧ ∃ c s l, w.heap[x.1]? = some (.mapIter none c s l)
  | .it (some m) cl all left cur => x.2.1 = 0 ∧ ∃ B base N seen last, ρ m = some (B, base, N) ∧ w.heap[x.1]? = some (.mapIter (some B) cl seen last) ∧ (seen ≠ #[] → last = cl) ∧ (∀ n ∈ all, (n ∈ left ↔ n ∉ seen)) ∧ ∀ c, cur = some c → seen.back? = some c

def AObj.rw : AObj → Bool
  | .row ro _ => !ro
  | _ => true

/-- The state: the heap H stands for the world w, under the names ρ; what was there in the world w0 is as it was. -/
structure Sim (P : Program) (w0 : World) (ρ : Rn) (H : AH) (w : World) : Prop where
  below : Go.RowKit.Below w0.heap.size w0 w
  live : ∀ b o, H.o b = some o → ∃ x, ρ b = some x ∧ ORel P ρ x w o
  fresh : ∀ b, H.n ≤ b → ρ b = none
  inj : ∀ b o b' o' x x', H.o b = some o → o.rw = true → H.o b' = some o' → ρ b = some x → ρ b' = some x' → x.1 = x'.1 → b = b'
  own : ∀ b o x, H.o b = some o → o.rw = true → ρ b = some x → w0.heap.size ≤ x.1
  ro : ∀ b o x, H.o b = some o → o.rw = false → ρ b = some x → x.1 < w0.heap.size

theorem ORel.ext {P : Program} {ρ ρ' : Rn} (h : Ext ρ ρ') {x : Nat × Nat × Nat} {w : World} : ∀ {o : AObj}, ORel P ρ x w o → ORel P ρ' x w o
  | .row ro cs, ⟨c, e, f, h1, h2, h3, h4⟩ => ⟨c, e, f, h1, h2, VRels.ext h _ h3, h4⟩
  | .mapo es bc, ⟨en, cl, h1, h2, h3, h4⟩ => ⟨en, cl, h1, VRels.ext h _ h2, VRels.ext h _ h3, h4⟩
  | .lp _ _ _ _ _ _, ⟨L, h1, h2, h3, h4, h5⟩ => ⟨L, h1, h2, h3, fun k => VRel.ext h _ (h4 k), h5⟩
  | .it none _ _ _ _, h1 => h1
  | .it (some m) _ _ _ _, ⟨h0, B, base, N, seen, last, h1, h2⟩ => ⟨h0, B, base, N, seen, last, h _ _ h1, h2⟩

theorem ORel.world {P : Program} {ρ : Rn} {x : Nat × Nat × Nat} {w w' : World} (h : w'.heap[x.1]? = w.heap[x.1]?) : ∀ {o : AObj}, ORel P ρ x w o → ORel P ρ x w' o
  | .row ro cs, ⟨c, e, f, h1, h2⟩ => ⟨c, e, f, h.trans h1, h2⟩
  | .mapo es bc, ⟨en, cl, h1, h2⟩ => ⟨en, cl, h.trans h1, h2⟩
  | .lp _ _ _ _ _ _, ⟨L, h1, h2⟩ => ⟨L, h.trans h1, h2⟩
  | .it none _ _ _ _, ⟨h0, c, s, l, h1⟩ => ⟨h0, c, s, l, h.trans h1⟩
  | .it (some m) _ _ _ _, ⟨h0, B, base, N, seen, last, h1, h2, h3⟩ => ⟨h0, B, base, N, seen, last, h1, h.trans h2, h3⟩

theorem lt_of_get {w : World} {k : Nat} {o : Obj} (h1 : w.heap[k]? = some o) : k < w.heap.size := by
  rcases Nat.lt_or_ge k w.heap.size with h | h
  · exact h
  · rw [Array.getElem?_eq_none h] at h1; cases h1

theorem ORel.lt {P : Program} {ρ : Rn} {x : Nat × Nat × Nat} {w : World} : ∀ {o : AObj}, ORel P ρ x w o → x.1 < w.heap.size
  | .row ro cs, ⟨c, e, f, h1, _⟩ => lt_of_get h1
  | .mapo es bc, ⟨en, cl, h1, _⟩ => lt_of_get h1
  | .lp _ _ _ _ _ _, ⟨L, h1, _⟩ => lt_of_get h1
  | .it none _ _ _ _, ⟨_, c, s, l, h1⟩ => lt_of_get h1
  | .it (some m) _ _ _ _, ⟨_, B, base, N, seen, last, _, h2, _⟩ => lt_of_get h2

/-- A draw turns nothing. -/
theorem Sim.drawn {P : Program} {w0 : World} {ρ : Rn} {H : AH} {w : World} (h : Sim P w0 ρ H w) (n : Nat) : Sim P w0 ρ H { w with drawn := n } :=
  ⟨⟨h.below.os, h.below.tape, h.below.output, h.below.size, h.below.block⟩, fun b o ho => let ⟨x, h1, h2⟩ := h.live b o ho; ⟨x, h1, ORel.world (w := w) rfl h2⟩, h.fresh, h.inj, h.own, h.ro⟩

def Rn.add (ρ : Rn) (n : Nat) (x : Nat × Nat × Nat) : Rn := fun b => if b = n then some x else ρ b

theorem Rn.add_ext {ρ : Rn} {n : Nat} {x : Nat × Nat × Nat} (h : ρ n = none) : Ext ρ (ρ.add n x) := by
  intro b y hb
  unfold Rn.add
  split
  · rename_i e; rw [e, h] at hb; cases hb
  · exact hb

theorem Rn.add_self (ρ : Rn) (n : Nat) (x : Nat × Nat × Nat) : ρ.add n x n = some x := by simp [Rn.add]

theorem heap_push_old (w : World) (o : Obj) (k : Nat) (h : k < w.heap.size) : (w.heap.push o)[k]? = w.heap[k]? := by
  rw [Array.getElem?_push, if_neg (by omega)]

/-- A new object. -/
theorem Sim.new {P : Program} {w0 : World} {ρ : Rn} {H : AH} {w : World} (h : Sim P w0 ρ H w) (x : AObj) (hx : x.rw = true) (o : Obj) (N : Nat) (hr : ORel P (ρ.add H.n (w.heap.size, 0, N)) (w.heap.size, 0, N) { w with heap := w.heap.push o } x) :
    Sim P w0 (ρ.add H.n (w.heap.size, 0, N)) (H.new x) { w with heap := w.heap.push o } := by
  have hn : ρ H.n = none := h.fresh _ (Nat.le_refl _)
  have he := Rn.add_ext (x := (w.heap.size, 0, N)) hn
  refine ⟨?_, ?_, ?_, ?_, ?_, ?_⟩
  · exact h.below.alloc h.below.size o
  · intro b o' ho
    simp only [AH.new] at ho
    split at ho
    · rename_i e
      subst e
      injection ho with ho
      subst ho
      exact ⟨_, Rn.add_self _ _ _, hr⟩
    · obtain ⟨y, h1, h2⟩ := h.live b o' ho
      exact ⟨y, he _ _ h1, (h2.ext he).world (heap_push_old _ _ _ h2.lt)⟩
  · intro b hb
    simp only [AH.new] at hb
    unfold Rn.add
    rw [if_neg (by omega)]
    exact h.fresh b (by omega)
  · intro b o1 b' o2 y y' h1 h2 h3 h4 h5 h6
    simp only [AH.new] at h1 h3
    unfold Rn.add at h4 h5
    split at h1 <;> split at h3
    · rename_i e1 e2; rw [e1, e2]
    · rename_i e1 e2
      rw [if_pos e1] at h4
      rw [if_neg e2] at h5
      obtain ⟨z, k1, k2⟩ := h.live _ _ h3
      rw [k1] at h5
      cases h5
      cases h4
      have := k2.lt
      simp at h6
      omega
    · rename_i e1 e2
      rw [if_neg e1] at h4
      rw [if_pos e2] at h5
      obtain ⟨z, k1, k2⟩ := h.live _ _ h1
      rw [k1] at h4
      cases h5
      cases h4
      have := k2.lt
      simp at h6
      omega
    · rename_i e1 e2
      rw [if_neg e1] at h4
      rw [if_neg e2] at h5
      exact h.inj _ _ _ _ _ _ h1 h2 h3 h4 h5 h6
  · intro b o1 y h1 h2 h3
    simp only [AH.new] at h1
    unfold Rn.add at h3
    split at h1
    · rename_i e
      rw [if_pos e] at h3
      cases h3
      exact h.below.size
    · rename_i e
      rw [if_neg e] at h3
      exact h.own _ _ _ h1 h2 h3
  · intro b o1 y h1 h2 h3
    simp only [AH.new] at h1
    unfold Rn.add at h3
    split at h1
    · rename_i e
      injection h1 with h1
      rw [← h1, hx] at h2
      cases h2
    · rename_i e
      rw [if_neg e] at h3
      exact h.ro _ _ _ h1 h2 h3

/-- An object that is turned: its block alone is. -/
theorem Sim.turn {P : Program} {w0 : World} {ρ : Rn} {H : AH} {w w' : World} (h : Sim P w0 ρ H w) {b : Nat} {o o' : AObj} {x : Nat × Nat × Nat} (ho : H.o b = some o) (hrw : o.rw = true) (hx : ρ b = some x)
    (hb : Go.RowKit.Below w0.heap.size w w') (hother : ∀ k, k ≠ x.1 → w'.heap[k]? = w.heap[k]?) (hrw' : o'.rw = true) (hr : ORel P ρ x w' o') : Sim P w0 ρ (H.set b o') w' := by
  refine ⟨h.below.trans hb, ?_, h.fresh, ?_, ?_, ?_⟩
  · intro b1 o1 h1
    simp only [AH.set] at h1
    split at h1
    · rename_i e
      subst e
      injection h1 with h1
      subst h1
      exact ⟨x, hx, hr⟩
    · rename_i e
      obtain ⟨y, k1, k2⟩ := h.live _ _ h1
      refine ⟨y, k1, k2.world (hother _ ?_)⟩
      intro ee
      exact e (h.inj _ _ _ _ _ _ ho hrw h1 hx k1 ee.symm).symm
  · intro b1 o1 b2 o2 y y' h1 h2 h3 h4 h5 h6
    simp only [AH.set] at h1 h3
    split at h1 <;> split at h3
    · rename_i e1 e2; rw [e1, e2]
    · rename_i e1 e2
      subst e1
      exact h.inj _ _ _ _ _ _ ho hrw h3 h4 h5 h6
    · rename_i e1 e2
      subst e2
      exact h.inj _ _ _ _ _ _ h1 h2 ho h4 h5 h6
    · exact h.inj _ _ _ _ _ _ h1 h2 h3 h4 h5 h6
  · intro b1 o1 y h1 h2 h3
    simp only [AH.set] at h1
    split at h1
    · rename_i e; subst e; exact h.own _ _ _ ho hrw h3
    · exact h.own _ _ _ h1 h2 h3
  · intro b1 o1 y h1 h2 h3
    simp only [AH.set] at h1
    split at h1
    · injection h1 with h1; rw [← h1, hrw'] at h2; cases h2
    · exact h.ro _ _ _ h1 h2 h3

end Go.Proofs.Ythcibbfljcfheaa.Abs
