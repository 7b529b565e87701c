/- Each operation of the model does what the plain machine's does: aggregates that are built, rows cleared, bytes read as a string, least and greatest. No condition of their own. -/
import Derived.Test.YthcibbfljcfheaaAbs10
import Derived.Laws.BytesArg
namespace Go.Proofs.Ythcibbfljcfheaa.Abs
set_option linter.unusedVariables false
set_option linter.unusedSimpArgs false
open Go.RowKit

section
variable {P : Program} {w0 : World} {ρ : Rn} {H : AH} {w : World}

theorem put_cells (off : Nat) : ∀ (vs : List Value) (k : Nat) (cells : Array Value), off + k + vs.length ≤ cells.size →
    ((vs.zipIdx k).foldl (fun cs (x : Value × Nat) => cs.setIfInBounds (off + x.2) x.1) cells).toList = cells.toList.take (off + k) ++ vs ++ cells.toList.drop (off + k + vs.length)
  | [], k, cells, _ => by simp
  | v :: vs, k, cells, h => by
    have hk : off + k + (vs.length + 1) ≤ cells.toList.length := by simp at h ⊢; omega
    rw [List.zipIdx_cons, List.foldl_cons, put_cells off vs (k + 1) _ (by simp at h ⊢; omega)]
    have e := list_seg_step cells.toList (off + k) v vs hk
    simpa [Array.toList_setIfInBounds, Nat.add_assoc] using e

def PartsOk (place : Nat → Option (Nat × Nat)) : List (Nat × Operand) → List (Nat × Nat × AX) → Prop
  | [], [] => True
  | (i, x) :: l, (off, size, ax) :: r => place i = some (off, size) ∧ cx x = some ax ∧ PartsOk place l r
  | _, _ => False

theorem fill_sound {t : Nat → AV} {a : Act} (ht : ∀ k, VRel ρ (t k) (a.tmps.getD k undef)) {place : Nat → Option (Nat × Nat)} : ∀ {l : List (Nat × Operand)} {r : List (Nat × Nat × AX)} {as : List AV} {cells : Array Value} {cs : List AV},
    PartsOk place l r → VRels ρ as cells.toList → (∀ c ∈ as, c.one = true) → afill t as r = some cs → ∃ cells', Instr.fill place cells (l.map fun x => (x.1, a.eval x.2)) = some cells' ∧ VRels ρ cs cells'.toList ∧ ∀ c ∈ cs, c.one = true
  | [], [], as, cells, cs, _, hr, h1, h => by unfold afill at h; cases h; exact ⟨cells, rfl, hr, h1⟩
  | (i, x) :: l, (off, size, ax) :: r, as, cells, cs, hp, hr, h1, h => by
    obtain ⟨p1, p2, p3⟩ := hp
    unfold afill at h
    have hx := cx_rel ht p2
    split at h
    · cases h
    · rename_i hnt
      split at h
      · rename_i hc
        have hcells := hx.cells hnt
        have hl1 := hcells.1.length
        have hl2 := hr.length
        simp only [Array.length_toList] at hl1 hl2
        have hput := put_cells off (a.eval x).cells.toList 0 cells (by simp; omega)
        have hr' : VRels ρ (setR as off (ax.ev t).cells) ((a.eval x).cells.zipIdx.foldl (fun cs (x : Value × Nat) => cs.setIfInBounds (off + x.2) x.1) cells).toList := by
          rw [← Array.foldl_toList, Array.toList_zipIdx, hput]
          unfold setR
          simp only [Nat.add_zero, Array.length_toList]
          rw [← hl1]
          exact VRels.append (VRels.append (VRels.take _ hr) hcells.1) (VRels.drop _ hr)
        have h1' : ∀ c ∈ setR as off (ax.ev t).cells, c.one = true := by
          intro c hc
          unfold setR at hc
          simp only [List.mem_append] at hc
          rcases hc with (hc | hc) | hc
          · exact h1 _ (List.mem_of_mem_take hc)
          · exact hcells.2 _ hc
          · exact h1 _ (List.mem_of_mem_drop hc)
        obtain ⟨cells', k1, k2, k3⟩ := fill_sound ht p3 hr' h1' h
        refine ⟨cells', ?_, k2, k3⟩
        simp only [List.map_cons, Instr.fill, p1]
        rw [if_neg (by simp; omega)]
        exact k1
      · cases h

theorem partsA_ok {n : Nat} : ∀ {l : List (Nat × Operand)} {r : List (Nat × Nat × AX)}, cpartsA n l = some r → PartsOk (fun i => some (i * n, n)) l r
  | [], r, h => by unfold cpartsA at h; cases h; trivial
  | (i, x) :: l, r, h => by
    unfold cpartsA at h
    split at h
    · rename_i h1 h2; cases h; exact ⟨rfl, h1, partsA_ok h2⟩
    · cases h

theorem partsS_ok {fs : Array Field} {pl : List (Nat × Nat)} (hpl : ∀ (i : Nat) (f : Field) (n : Nat), fs[i]? = some f → csize P f.type = some n → pl[i]? = some (f.offset, n)) : ∀ {l : List (Nat × Operand)} {r : List (Nat × Nat × AX)}, cpartsS P fs l = some r → PartsOk (fun i => pl.toArray[i]?) l r
  | [], r, h => by unfold cpartsS at h; cases h; trivial
  | (i, x) :: l, r, h => by
    unfold cpartsS at h
    split at h
    · rename_i a f as h1 h2 h3
      split at h
      · rename_i n hn
        cases h
        refine ⟨?_, h1, partsS_ok hpl h3⟩
        have := hpl i f n h2 hn
        simpa using this
      · cases h
    · cases h

theorem places_of : ∀ (fs : List Field), csized P fs = true → ∃ pl, fs.mapM (fun f => (P.info? f.type).map fun i => (f.offset, i.size)) = some pl ∧ ∀ (i : Nat) (f : Field) (n : Nat), fs[i]? = some f → csize P f.type = some n → pl[i]? = some (f.offset, n)
  | [], _ => ⟨[], rfl, by simp⟩
  | f :: fs, h => by
    unfold csized at h
    rw [Bool.and_eq_true] at h
    obtain ⟨pl, h1, h2⟩ := places_of fs h.2
    obtain ⟨n, hn⟩ := Option.isSome_iff_exists.mp h.1
    unfold csize at hn
    cases hi : P.info? f.type with
    | none => rw [hi] at hn; cases hn
    | some i =>
      rw [hi] at hn
      injection hn with hn
      refine ⟨(f.offset, i.size) :: pl, by simp [hi, h1], ?_⟩
      intro j g m hj hm
      cases j with
      | zero =>
        simp at hj
        subst hj
        unfold csize at hm
        rw [hi] at hm
        injection hm with hm
        simp [hm]
      | succ j =>
        simp at hj ⊢
        exact h2 j g m hj hm

theorem zero_of {t : TypeId} {z : List AV} (h : czero P t = some z) : ∃ i v, P.info? t = some i ∧ i.zero = some v ∧ VRels ρ z v.cells.toList ∧ ∀ c ∈ z, c.one = true := by
  unfold czero at h
  cases hi : P.info? t with
  | none => rw [hi] at h; cases h
  | some i =>
    rw [hi] at h
    cases hz : i.zero with
    | none => simp only [hz] at h; cases h
    | some v =>
      simp only [hz] at h
      cases ha : toAVs v.cells.toList with
      | none => simp only [ha] at h; cases h
      | some z' =>
        simp only [ha] at h
        split at h
        · cases h
          have := toAVs_rel (ρ := ρ) ha
          exact ⟨i, v, rfl, hz, this.1, this.2⟩
        · cases h

theorem build_soundS {t : Nat → AV} {a : Act} (ht : ∀ k, VRel ρ (t k) (a.tmps.getD k undef)) {T : TypeId} {fs : Array Field} (hT : P.underlying T = some (.struct fs)) {z : List AV} (hz : czero P T = some z) (hsz : csized P fs.toList = true) {parts : Array (Nat × Operand)} {r : List (Nat × Nat × AX)} (hp : cpartsS P fs parts.toList = some r) {cs : List AV} (h : afill t z r = some cs) :
    ∃ u, (Instr.build T (parts.map fun (i, x) => (i, a.eval x))).run P w = .ok u w ∧ VRel ρ (.agg cs) u := by
  obtain ⟨it, v, hit, hiz, hr, h1⟩ := zero_of (ρ := ρ) hz
  obtain ⟨pl, hpl, hpl2⟩ := places_of fs.toList hsz
  obtain ⟨cells', k1, k2, k3⟩ := fill_sound ht (partsS_ok (P := P) (fun i f n hf hn => hpl2 i f n (by simpa using hf) hn) hp) hr h1 h
  refine ⟨_, run_build w T _ cells' ?_, by unfold VRel; exact ⟨_, rfl, k2, k3⟩⟩
  unfold Program.built
  simp only [hit, hT, hiz, hpl]
  rw [Array.toList_map]
  exact k1

theorem build_soundA {t : Nat → AV} {a : Act} (ht : ∀ k, VRel ρ (t k) (a.tmps.getD k undef)) {T e : TypeId} {len : Nat} (hT : P.underlying T = some (.array len e)) {z : List AV} (hz : czero P T = some z) {n : Nat} (hn : csize P e = some n) {parts : Array (Nat × Operand)} {r : List (Nat × Nat × AX)} (hp : cpartsA n parts.toList = some r) {cs : List AV} (h : afill t z r = some cs) :
    ∃ u, (Instr.build T (parts.map fun (i, x) => (i, a.eval x))).run P w = .ok u w ∧ VRel ρ (.agg cs) u := by
  obtain ⟨it, v, hit, hiz, hr, h1⟩ := zero_of (ρ := ρ) hz
  obtain ⟨cells', k1, k2, k3⟩ := fill_sound ht (partsA_ok hp) hr h1 h
  refine ⟨_, run_build w T _ cells' ?_, by unfold VRel; exact ⟨_, rfl, k2, k3⟩⟩
  unfold csize at hn
  cases hi : P.info? e with
  | none => rw [hi] at hn; cases hn
  | some ie =>
    rw [hi] at hn
    injection hn with hn
    unfold Program.built
    simp only [hit, hT, hiz, hi, hn]
    rw [Array.toList_map]
    exact k1

theorem bsl_sound (hs : Sim P w0 ρ H w) {t : Nat → AV} {a : Act} (ht : ∀ k, VRel ρ (t k) (a.tmps.getD k undef)) {T e : TypeId} (hT : P.underlying T = some (.slice e)) {z : List AV} (hz : czero P e = some z) {len : Nat} (hlen : len * z.length ≤ 1000000) {parts : Array (Nat × Operand)} {r : List (Nat × Nat × AX)} (hp : cpartsA z.length parts.toList = some r) {cs : List AV} (h : afill t (zerosA z len) r = some cs) :
    ∃ q w' u, (Instr.buildSlice T len (parts.map fun (i, x) => (i, a.eval x))).run P w = .ok u w' ∧ VRel (ρ.add H.n q) (.sl (some (H.n, 0)) len len true z.length) u ∧ Sim P w0 (ρ.add H.n q) (H.new (.row false cs)) w' ∧ Fr ρ H w (ρ.add H.n q) (H.new (.row false cs)) w' := by
  obtain ⟨zv, hzv, hza, hsz, hpos⟩ := run_zeroValue' hz w
  have hr := toAVs_rel (ρ := ρ) hza
  have hl := hr.1.length
  simp only [Array.length_toList] at hl
  have hcells := zeros_list zv.cells (by omega) len
  have hrz : VRels ρ (zerosA z len) ((Array.range (len * zv.cells.size)).map fun i => zv.cells[i % zv.cells.size]!).toList := by rw [hcells]; exact zerosA_rel hr.1 _
  obtain ⟨cells', k1, k2, k3⟩ := fill_sound ht (partsA_ok hp) hrz (zerosA_one hr.2 _) h
  obtain ⟨h1, h2, h3⟩ := row_new (P := P) hs k2 k3 e
  have hcs : ∀ {l : List (Nat × Nat × AX)} {as cs : List AV}, afill t as l = some cs → cs.length = as.length := by
    intro l
    induction l with
    | nil => intro as cs h; unfold afill at h; cases h; rfl
    | cons x l ih =>
      intro as cs h
      obtain ⟨off, size, ax⟩ := x
      unfold afill at h
      split at h
      · cases h
      · split at h
        · rename_i hc
          rw [ih h, setR_length (by omega)]
        · cases h
  have hl2 := k2.length
  rw [hcs h, zerosA_length] at hl2
  simp only [Array.length_toList] at hl2
  refine ⟨_, _, .slice (some ⟨w.heap.size, 0, none⟩) len len, ?_, ?_, h2, h3⟩
  · have hk : ∀ cs : Array Value, cs = (Array.range (len * zv.cells.size)).map (fun i => zv.cells[i % zv.cells.size]!) → Instr.fill (fun i => some (i * z.length, z.length)) cs (parts.map fun (i, x) => (i, a.eval x)).toList = some cells' := by
      intro cs e
      rw [e, Array.toList_map]
      exact k1
    by_cases h0 : len * z.length = 0
    · have e0 : (Array.range (len * zv.cells.size)).map (fun i => zv.cells[i % zv.cells.size]!) = #[] := by rw [← hl, h0]; simp
      have hk0 := hk #[] e0.symm
      simp only [Instr.buildSlice, Sem.run_bind, run_underlying hT, Result.andThen_ok, run_sizeOf' hsz, if_neg (show ¬ (len * z.length > 2 ^ 24) by omega), h0, if_true, Sem.run_pure]
      have e1 : ∀ f : Nat → Value, (Array.range 0).map f = #[] := by simp
      rw [if_neg (by omega)]
      simp only [Sem.run_bind, Result.andThen_ok, Sem.run_pure, e1, hk0, h1]
    · simp only [Instr.buildSlice, Sem.run_bind, run_underlying hT, Result.andThen_ok, run_sizeOf' hsz, if_neg (show ¬ (len * z.length > 2 ^ 24) by omega), if_neg h0, hzv, Sem.run_pure]
      have := hk _ rfl
      rw [← hl] at this ⊢
      simp only [this, h1, Sem.run_bind, Result.andThen_ok, Sem.run_pure]
  · unfold VRel
    refine ⟨w.heap.size, 0, _, 0, len, Rn.add_self _ _ _, rfl, Or.inl rfl, by omega, ⟨by omega, fun e => by rw [e] at hlen; omega⟩, fun _ => rfl, ?_⟩
    omega

theorem clr_sound (hs : Sim P w0 ρ H w) {T ty e : TypeId} (hT : P.underlying T = some (.slice e)) {z : List AV} (hz : czero P e = some z) {x : AV} {cx : Value} (hx : VRel ρ x cx) {v : AV} {H' : AH} (h : aclear z x H = some (v, H')) :
    ∃ w' u, (Builtin.clear_ #[T] ty #[cx]).run P w = .ok u w' ∧ VRel ρ v u ∧ Sim P w0 ρ H' w' ∧ Fr ρ H w ρ H' w' := by
  obtain ⟨zv, hzv, hza, hsz, hpos⟩ := run_zeroValue' hz w
  have hr := toAVs_rel (ρ := ρ) hza
  have hl := hr.1.length
  simp only [Array.length_toList] at hl
  unfold aclear at h
  split at h
  case h_2 => cases h
  rename_i a n lo ex sz
  split at h
  · cases h
    unfold VRel at hx
    obtain ⟨rfl, rfl, rfl, rfl⟩ := hx
    refine ⟨w, _, ?_, undef_rel ρ, hs, Fr.refl _ _ _⟩
    simp [Builtin.clear_, run_underlying hT]
    rfl
  · rename_i b o
    unfold VRel at hx
    obtain ⟨B, base, N, off, cap', hb, rfl, ho, g1, g2, g3, g4⟩ := hx
    split at h
    · rename_i h0
      cases h
      subst h0
      refine ⟨w, _, ?_, undef_rel ρ, hs, Fr.refl _ _ _⟩
      simp [Builtin.clear_, run_underlying hT]
      rfl
    · rename_i h0
      split at h
      case h_2 => cases h
      rename_i cs hO
      split at h
      case isFalse => cases h
      rename_i hle
      cases h
      have ho : off = base + o := by
        rcases ho with h | ⟨h, _⟩
        · exact h
        · exact absurd h h0
      subst ho
      have hzc : (Builtin.zeroCells zv.cells n).toList = (List.replicate n zv.cells.toList).flatten := zeros_list zv.cells (by omega) n
      obtain ⟨w', k1, k2, k3⟩ := row_store (P := P) (o := o) (as := zerosA z n) (vs := (Builtin.zeroCells zv.cells n).toList) hs hO hb (by rw [hzc]; exact zerosA_rel hr.1 _) (zerosA_one hr.2 _) (by rw [zerosA_length]; exact hle)
      refine ⟨w', _, ?_, undef_rel ρ, k2, k3⟩
      obtain ⟨n', rfl⟩ : ∃ m, n = m + 1 := ⟨n - 1, by omega⟩
      simp only [Builtin.clear_, Sem.run_bind, run_underlying hT, Result.andThen_ok, List.getElem?_toArray, List.getElem?_cons_zero, hzv, k1, Sem.run_pure]
      rfl

theorem bytes_sound : ∀ {cs : List AV} {L : List Value} {l : List UInt8}, VRels ρ cs L → abytesOf cs = some l → ∃ xs : List Int, L = xs.map (Value.int .u8) ∧ l = xs.map fun n => UInt8.ofNat n.toNat
  | [], L, l, hr, h => by unfold abytesOf at h; cases h; unfold VRels at hr; exact ⟨[], hr, rfl⟩
  | c :: cs, L, l, hr, h => by
    unfold VRels at hr
    obtain ⟨v, vs, rfl, h1, h2⟩ := hr
    unfold abytesOf at h
    split at h
    · rename_i heq; cases heq
    · rename_i n r heq
      injection heq with e1 e2
      subst e1; subst e2
      split at h
      · rename_i l' hl'
        cases h
        obtain ⟨xs, e3, e4⟩ := bytes_sound h2 hl'
        unfold VRel at h1
        exact ⟨n :: xs, by rw [h1, e3]; rfl, by rw [e4]; rfl⟩
      · cases h
    · cases h

theorem cvs_sound (hs : Sim P w0 ρ H w) {src dst e : TypeId} (h1 : P.underlying src = some (.slice e)) (he : P.underlying e = some (.int .u8)) (h2 : P.underlying dst = some .string) {x v : AV} {cx : Value} (hx : VRel ρ x cx) (h : aconvS x H = some v) :
    ∃ u, (convert src dst cx).run P w = .ok u w ∧ VRel ρ v u := by
  unfold aconvS at h
  split at h
  · cases h
    unfold VRel at hx
    obtain ⟨rfl, rfl, rfl, rfl⟩ := hx
    exact ⟨_, run_convert_bytes_nil (P := P) (w := w) src e h1 he 0 0 dst h2, by unfold VRel; rfl⟩
  · rename_i b len lo ex sz
    split at h
    case h_2 => cases h
    rename_i cs hf
    split at h
    case h_2 => cases h
    rename_i l hl
    cases h
    obtain ⟨c, cap, rfl, _⟩ := slice_of (s := .nf) hx
    obtain ⟨arr, f1, f2, f3, f4⟩ := first_sound (P := P) (k := len) (sz := 1) hs hx (Nat.le_refl _) (by simpa using hf)
    obtain ⟨xs, e1, e2⟩ := bytes_sound f2 hl
    obtain ⟨b, o⟩ := b
    unfold VRel at hx
    obtain ⟨B, base, N, off, cap', hb, hv, _⟩ := hx
    cases hv
    have hxl : xs.length = len := by
      have := f2.length
      rw [f4, e1] at this
      simp at this
      omega
    refine ⟨_, run_convert_bytes_string w src dst e _ len cap h1 he h2 |>.trans (run_bytesToString w _ len cap xs ?_), ?_⟩
    · have : (loadCells ⟨B, off, none⟩ (len * 1)).run P w = .ok arr w := f1
      rw [Nat.mul_one] at this
      rw [this]
      congr 1
      apply Array.ext'
      rw [e1]
    · rw [foldl_push_bytes, e2]
      unfold VRel
      congr 1
      simp [ByteArray.empty, ByteArray.emptyWithCapacity]
      rfl
  · cases h

theorem mm_sound {mx : Bool} : ∀ {x : AV} {r : List AV} {v : AV} {c : Value} {cs : List Value}, aminmax mx x r = some v → VRel ρ x c → VRels ρ r cs → ∃ u, (cs.foldlM (if mx then Builtin.max2 else Builtin.min2) c : Sem Value).run P w = .ok u w ∧ VRel ρ v u
  | x, [], v, c, cs, h, hx, hr => by
    unfold aminmax at h
    cases h
    unfold VRels at hr
    subst hr
    exact ⟨c, rfl, hx⟩
  | x, y :: r, v, c, cs, h, hx, hr => by
    unfold VRels at hr
    obtain ⟨u, us, rfl, h1, h2⟩ := hr
    unfold aminmax at h
    split at h
    · rename_i heq; cases heq
    · rename_i k a k' b r' heq
      injection heq with e1 e2
      subst e1; subst e2
      split at h
      · rename_i hk
        subst hk
        unfold VRel at hx h1
        subst hx; subst h1
        have hstep : ((if mx then Builtin.max2 else Builtin.min2) (.int k a) (.int k b)).run P w = .ok (.int k (if mx then (if b > a then b else a) else (if b < a then b else a))) w := by
          cases mx <;> rfl
        have hx' : VRel ρ (.i k (if mx then (if b > a then b else a) else (if b < a then b else a))) (.int k (if mx then (if b > a then b else a) else (if b < a then b else a))) := by unfold VRel; rfl
        obtain ⟨u, h5, h6⟩ := mm_sound (c := .int k (if mx then (if b > a then b else a) else (if b < a then b else a))) h hx' h2
        refine ⟨u, ?_, h6⟩
        rw [List.foldlM_cons]
        simp only [Sem.run_bind, hstep, Result.andThen_ok]
        exact h5
      · cases h
    · cases h

theorem slg_sound {T : TypeId} (hT : P.underlying T = some .string) {x v : AV} {lo hi : Option AV} (h : asliceG x lo hi = some v) {cx : Value} {clo chi : Option Value}
    (hx : VRel ρ x cx) (hlo : ORelV ρ lo clo) (hhi : ORelV ρ hi chi) : ∃ u, (Instr.sliceAt T cx clo chi none).run P w = .ok u w ∧ VRel ρ v u := by
  unfold asliceG at h
  split at h
  case h_2 => cases h
  rename_i s
  split at h
  case h_2 => cases h
  rename_i hh hhe
  split at h
  case h_2 => cases h
  rename_i ll hle
  cases h
  unfold VRel at hx
  subst hx
  have b1 := bound_sound (P := P) (w := w) hhi hhe s.size (Nat.le_refl _) (fun _ => Nat.le_refl _) .sliceAlen
  have b2 := bound_sound (P := P) (w := w) hlo hle hh (Nat.le_refl _) (fun _ => by omega) .sliceB
  refine ⟨_, ?_, by unfold VRel; rfl⟩
  cases chi with
  | none =>
    have e1 : hh = s.size := b1.1
    subst e1
    cases clo with
    | none =>
      have e2 : ll = 0 := b2.1
      subst e2
      simp [Instr.sliceAt, Instr.slice, run_underlying hT, Instr.sliceBounds]
    | some u => simp [Instr.sliceAt, Instr.slice, run_underlying hT, Instr.sliceBounds, b2.1]
  | some u1 =>
    cases clo with
    | none =>
      have e2 : ll = 0 := b2.1
      subst e2
      simp [Instr.sliceAt, Instr.slice, run_underlying hT, Instr.sliceBounds, b1.1]
    | some u => simp [Instr.sliceAt, Instr.slice, run_underlying hT, Instr.sliceBounds, b1.1, b2.1]

end
end Go.Proofs.Ythcibbfljcfheaa.Abs
