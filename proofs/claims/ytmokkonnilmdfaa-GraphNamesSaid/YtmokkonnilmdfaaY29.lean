/-
  Maps, read: keys held against each other; an entry found.
  No statement of the seat is proved here. Conditions: none.
-/
import Derived.Test.YtmokkonnilmdfaaY6
set_option linter.unusedSimpArgs false
set_option linter.unusedVariables false
namespace Go.Sy
open Go.RowKit

/-! ### 1. Keys -/
mutual
theorem keyB_trans : ∀ {k : Sh} {x a b : D}, keyB k x a = true → keyB k x b = true → keyB k a b = true
  | .int _, x, a, b, h, h' => by simp only [keyB, beq_iff_eq] at h h' ⊢; exact h.symm.trans h'
  | .bool, x, a, b, h, h' => by simp only [keyB, beq_iff_eq] at h h' ⊢; exact h.symm.trans h'
  | .str, x, a, b, h, h' => by simp only [keyB, beq_iff_eq] at h h' ⊢; exact h.symm.trans h'
  | .agg cs, x, a, b, h, h' => by simp only [keyB] at h h' ⊢; exact keyBL_trans h h'
  | .list _, x, a, b, h, h' => by simp [keyB] at h
theorem keyBL_trans : ∀ {cs : List Sh} {x a b : D} {j : Nat}, keyBL cs x a j = true → keyBL cs x b j = true → keyBL cs a b j = true
  | [], x, a, b, j, h, h' => rfl
  | c :: r, x, a, b, j, h, h' => by
    simp only [keyBL, Bool.and_eq_true] at h h' ⊢
    exact ⟨keyB_trans h.1 h'.1, keyBL_trans h.2 h'.2⟩
end
mutual
theorem keyB_symm : ∀ {k : Sh} {a b : D}, keyB k a b = true → keyB k b a = true
  | .int _, a, b, h => by simp only [keyB, beq_iff_eq] at h ⊢; exact h.symm
  | .bool, a, b, h => by simp only [keyB, beq_iff_eq] at h ⊢; exact h.symm
  | .str, a, b, h => by simp only [keyB, beq_iff_eq] at h ⊢; exact h.symm
  | .agg cs, a, b, h => by simp only [keyB] at h ⊢; exact keyBL_symm h
  | .list _, a, b, h => by simp [keyB] at h
theorem keyBL_symm : ∀ {cs : List Sh} {a b : D} {j : Nat}, keyBL cs a b j = true → keyBL cs b a j = true
  | [], a, b, j, h => rfl
  | c :: r, a, b, j, h => by
    simp only [keyBL, Bool.and_eq_true] at h ⊢
    exact ⟨keyB_symm h.1, keyBL_symm h.2⟩
end
theorem keyB_comm (k : Sh) (a b : D) : keyB k a b = keyB k b a := by
  rw [Bool.eq_iff_iff]; exact ⟨keyB_symm, keyB_symm⟩
theorem apart_eq {k : Sh} : ∀ {es : List D} {a b : D}, Apart k es → a ∈ es → b ∈ es → keyB k (a.at 0) (b.at 0) = true → a = b
  | [], _, _, _, h, _, _ => by simp at h
  | c :: t, a, b, h, ha, hb, hk => by
    obtain ⟨h1, h2⟩ := List.pairwise_cons.1 h
    rcases List.mem_cons.1 ha with hac | ha'
    · rcases List.mem_cons.1 hb with hbc | hb'
      · rw [hac, hbc]
      · subst hac; rw [h1 b hb'] at hk; cases hk
    · rcases List.mem_cons.1 hb with hbc | hb'
      · subst hbc; rw [keyB_comm, h1 a ha'] at hk; cases hk
      · exact apart_eq h2 ha' hb' hk
theorem apart_perm {k : Sh} {es es' : List D} (hp : es'.Perm es) (h : Apart k es) : Apart k es' :=
  (hp.pairwise_iff (fun {x y} hxy => by rw [keyB_comm]; exact hxy)).2 h
section
variable {Φ : Nat → Prop} {w : World}
theorem atom_den {k : Sh} (hk : k.atomB = true) {a b : D} {x y : Value} (hx : DenD Φ w k a x) (hy : DenD Φ w k b y) (h : keyB k a b = true) : x = y := by
  cases k <;> simp only [Sh.atomB] at hk
  case int q => simp only [keyB, beq_iff_eq] at h; simp only [DenD] at hx hy; rw [hx, hy, h]
  case bool => simp only [keyB, beq_iff_eq] at h; simp only [DenD] at hx hy; rw [hx, hy, h]
  case str => simp only [keyB, beq_iff_eq] at h; simp only [DenD] at hx hy; rw [hx, hy, h]
  all_goals cases hk
theorem atoms_den : ∀ {cs : List Sh} {a b : D} {j : Nat} {xs ys : List Value}, cs.all Sh.atomB = true → DenDs Φ w cs a j xs → DenDs Φ w cs b j ys → keyBL cs a b j = true → xs = ys
  | [], a, b, j, xs, ys, _, hx, hy, _ => by simp only [DenDs] at hx hy; rw [hx, hy]
  | c :: r, a, b, j, xs, ys, hc, hx, hy, h => by
    simp only [List.all_cons, Bool.and_eq_true] at hc
    simp only [DenDs] at hx hy
    obtain ⟨x, xt, rfl, hx1, hx2⟩ := hx
    obtain ⟨y, yt, rfl, hy1, hy2⟩ := hy
    simp only [keyBL, Bool.and_eq_true] at h
    rw [atom_den hc.1 hx1 hy1 h.1, atoms_den hc.2 hx2 hy2 h.2]
theorem keyB_den {k : Sh} (hk : k.keyish = true) {a b : D} {x y : Value} (hx : DenD Φ w k a x) (hy : DenD Φ w k b y) (h : keyB k a b = true) : x = y := by
  cases k with
  | agg cs =>
    simp only [Sh.keyish] at hk
    simp only [DenD] at hx hy
    obtain ⟨xs, rfl, h1⟩ := hx
    obtain ⟨ys, rfl, h2⟩ := hy
    simp only [keyB] at h
    rw [atoms_den hk h1 h2 h]
  | _ => all_goals exact atom_den (by simpa only [Sh.keyish] using hk) hx hy h
theorem same_atom {k : Sh} (hk : k.atomB = true) {a : D} {x : Value} (hx : DenD Φ w k a x) (n : Nat) : Instr.sameBits n x x = true := by
  cases k <;> simp only [Sh.atomB] at hk
  case int q => simp only [DenD] at hx; subst hx; cases n <;> simp [Instr.sameBits]
  case bool => simp only [DenD] at hx; subst hx; cases n <;> simp [Instr.sameBits]
  case str => simp only [DenD] at hx; subst hx; cases n <;> simp [Instr.sameBits, ba_beq]
  all_goals cases hk
theorem same_atoms (n : Nat) : ∀ {cs : List Sh} {a : D} {j : Nat} {xs : List Value}, cs.all Sh.atomB = true → DenDs Φ w cs a j xs → (xs.zip xs).all (fun p => Instr.sameBits n p.1 p.2) = true
  | [], a, j, xs, _, hx => by simp only [DenDs] at hx; subst hx; rfl
  | c :: r, a, j, xs, hc, hx => by
    simp only [List.all_cons, Bool.and_eq_true] at hc
    simp only [DenDs] at hx
    obtain ⟨x, xt, rfl, hx1, hx2⟩ := hx
    simp only [List.zip_cons_cons, List.all_cons, Bool.and_eq_true]
    exact ⟨same_atom hc.1 hx1 n, same_atoms n hc.2 hx2⟩
theorem same_key {k : Sh} (hk : k.keyish = true) {a : D} {x : Value} (hx : DenD Φ w k a x) (n : Nat) : Instr.sameBits (n + 1) x x = true := by
  cases k with
  | agg cs =>
    simp only [Sh.keyish] at hk
    simp only [DenD] at hx
    obtain ⟨xs, rfl, h1⟩ := hx
    have := same_atoms n hk h1
    simpa [Instr.sameBits] using this
  | _ => all_goals exact same_atom (by simpa only [Sh.keyish] using hk) hx (n + 1)
mutual
theorem zden_den : ∀ {s : Sh} {d : D} {v : Value}, zden s d v = true → DenD Φ w s d v
  | .int k, d, v, h => by
    cases v <;> simp only [zden] at h
    all_goals first | (cases h; done) | skip
    simp only [Bool.and_eq_true, beq_iff_eq] at h
    simp only [DenD]
    rw [kbeq_eq h.1, h.2]
  | .bool, d, v, h => by
    cases v <;> simp only [zden] at h
    all_goals first | (cases h; done) | skip
    simp only [beq_iff_eq] at h
    simp only [DenD]
    rw [h]
  | .str, d, v, h => by
    cases v <;> simp only [zden] at h
    all_goals first | (cases h; done) | skip
    rename_i s
    split at h
    · rename_i h1 h2
      simp only [DenD]
      rw [h2]
      have : s.data = #[] := by rw [← Array.toArray_toList (xs := s.data), h1]
      cases s; simp only at this; rw [this]
    · cases h
  | .agg cs, d, v, h => by
    cases v <;> simp only [zden] at h
    all_goals first | (cases h; done) | skip
    rename_i vs
    simp only [DenD]
    exact ⟨vs.toList, by simp, zdenL_den h⟩
  | .list e, d, v, h => by
    unfold zden at h
    split at h
    · simp only [Bool.and_eq_true, List.isEmpty_iff] at h
      simp only [DenD]
      exact ⟨none, 0, by rw [h.2]; rfl, by rw [h.2]; exact Nat.le_refl _, Nat.zero_le _, by simp [h.1], fun _ => ⟨h.2, rfl⟩, fun p hp => by cases hp⟩
    · cases h
theorem zdenL_den : ∀ {cs : List Sh} {d : D} {j : Nat} {vs : List Value}, zdenL cs d j vs = true → DenDs Φ w cs d j vs
  | [], d, j, vs, h => by simp only [zdenL, List.isEmpty_iff] at h; simp only [DenDs]; exact h
  | c :: r, d, j, vs, h => by
    unfold zdenL at h
    split at h
    · rename_i v t
      simp only [Bool.and_eq_true] at h
      simp only [DenDs]
      exact ⟨v, t, rfl, zden_den h.1, zdenL_den h.2⟩
    · cases h
end
end

/-! ### 2. An entry is found -/
def findE (p : D → Bool) : List D → List MapEntry → Nat → Option (Nat × Value)
  | d :: es, x :: xs, i => match p d with
    | true => some (i, x.val)
    | false => findE p es xs (i + 1)
  | _, _, _ => none

section
variable {P : Program} {T : Tab} [GoodTab P T] {ρ : Names} {Φ : Nat → Prop} {w : World}
theorem sameNow_key {k : Sh} {a b : D} {x y : Value} (d : TypeDesc) (hx : DenD Φ w k a x) (hy : DenD Φ w k b y) : Instr.sameNow d x y = none ∨ Instr.sameNow d x y = some (keyB k a b) := by
  cases k with
  | int q =>
    simp only [DenD] at hx hy; subst hx; subst hy
    cases d <;> first | (left; rfl) | skip
    right; simp [Instr.sameNow, keyB]
  | bool =>
    simp only [DenD] at hx hy; subst hx; subst hy
    cases d <;> first | (left; rfl) | skip
    right; simp [Instr.sameNow, keyB]
  | str =>
    simp only [DenD] at hx hy; subst hx; subst hy
    cases d <;> first | (left; rfl) | skip
    right; simp only [Instr.sameNow, keyB, ba_beq]
  | agg cs =>
    simp only [DenD] at hx hy
    obtain ⟨_, rfl, _⟩ := hx
    left; cases d <;> rfl
  | list e =>
    simp only [DenD] at hx hy
    obtain ⟨_, _, rfl, _⟩ := hx
    left; cases d <;> rfl
theorem findNow_run {k v : Sh} {kd : D} {key : Value} (d : TypeDesc) (hkey : DenD Φ w k kd key) : ∀ {es : List D} {ents : List MapEntry} (i : Nat), EntsP Φ w k v es ents →
    Instr.findNow d key ents i = none ∨ Instr.findNow d key ents i = some (findE (fun e => keyB k kd (e.at 0)) es ents i)
  | [], ents, i, h => by simp only [EntsP] at h; subst h; right; rfl
  | e :: es, ents, i, h => by
    simp only [EntsP] at h
    obtain ⟨x, t, rfl, h1, h2⟩ := h
    rcases sameNow_key d hkey h1.1 with hn | hn
    · left; simp only [Instr.findNow, hn]
    · simp only [Instr.findNow, hn, findE]
      cases keyB k kd (e.at 0) with
      | true => right; rfl
      | false => exact findNow_run d hkey (i + 1) h2
theorem findAsking_run {kt : TypeId} {k v : Sh} {kd : D} {key : Value} (heq : ∀ a b, eqSV T 60 kt (enc k a) (enc k b) = some (keyB k a b)) (hkey : DenD Φ w k kd key) (w' : World) : ∀ {es : List D} {ents : List MapEntry} (i : Nat), EntsP Φ w k v es ents →
    (Instr.findAsking kt key ents i).run P w' = .ok (findE (fun e => keyB k kd (e.at 0)) es ents i) w'
  | [], ents, i, h => by simp only [EntsP] at h; subst h; rfl
  | e :: es, ents, i, h => by
    simp only [EntsP] at h
    obtain ⟨x, t, rfl, h1, h2⟩ := h
    have hq : (Op.equal kt key x.key).run P w' = .ok (keyB k kd (e.at 0)) w' :=
      eqSV_run (T := T) (ρ := fun _ => none) (Φ := Φ) (w := w) 60 kt _ _ key x.key _ 10000 w' (heq kd (e.at 0)) (by omega) (enc_den.2 hkey) (enc_den.2 h1.1)
    simp only [Instr.findAsking, Sem.run_bind, hq, Result.andThen_ok, findE]
    cases keyB k kd (e.at 0) with
    | true => simp
    | false => simpa using findAsking_run heq hkey w' (i + 1) h2
theorem findKey_run {kt : TypeId} {k v : Sh} {kd : D} {key : Value} {d : TypeDesc} (hu : T.underlying kt = some d) (heq : ∀ a b, eqSV T 60 kt (enc k a) (enc k b) = some (keyB k a b)) (hkey : DenD Φ w k kd key) (w' : World) {es : List D} {ents : List MapEntry} (h : EntsP Φ w k v es ents) :
    (Instr.findKey kt key ents).run P w' = .ok (findE (fun e => keyB k kd (e.at 0)) es ents 0) w' := by
  simp only [Instr.findKey, Sem.run_bind, run_underlying' (P := P) hu, Result.andThen_ok]
  rcases findNow_run d hkey 0 h with hn | hn
  · simp only [hn]; exact findAsking_run heq hkey w' 0 h
  · simp only [hn]; rfl
theorem findE_spec {k v : Sh} {p : D → Bool} : ∀ {es : List D} {ents : List MapEntry} (i : Nat), EntsP Φ w k v es ents →
    (findE p es ents i = none ∧ es.any p = false) ∨ ∃ j d x, es[j]? = some d ∧ ents[j]? = some x ∧ p d = true ∧ EntP Φ w k v d x ∧ findE p es ents i = some (i + j, x.val)
  | [], ents, i, h => by simp only [EntsP] at h; subst h; left; exact ⟨rfl, rfl⟩
  | e :: es, ents, i, h => by
    simp only [EntsP] at h
    obtain ⟨x, t, rfl, h1, h2⟩ := h
    simp only [findE]
    cases hp : p e with
    | true => right; exact ⟨0, e, x, rfl, rfl, hp, h1, rfl⟩
    | false =>
      rcases findE_spec (i + 1) h2 with ⟨g1, g2⟩ | ⟨j, d, y, g1, g2, g3, g4, g5⟩
      · left; exact ⟨g1, by simp [hp, g2]⟩
      · right; exact ⟨j + 1, d, y, by simpa using g1, by simpa using g2, g3, g4, by rw [g5, show i + 1 + j = i + (j + 1) by omega]⟩
/-- The entry at a key. -/
theorem getK_spec {k : Sh} {es es' : List D} (hp : es'.Perm es) (ha : Apart k es) {kd : D} {d : D} (hd : d ∈ es') (hk : keyB k kd (d.at 0) = true) : hasK k es kd = true ∧ getK k es kd = d.at 1 := by
  have hm : d ∈ es := hp.mem_iff.1 hd
  have h1 : hasK k es kd = true := List.any_eq_true.2 ⟨d, hm, hk⟩
  refine ⟨h1, ?_⟩
  unfold getK
  have hi : (es.findIdx fun (e : D) => keyB k kd (e.at 0)) < es.length := List.findIdx_lt_length.2 ⟨d, hm, hk⟩
  have e1 : es.getD (es.findIdx fun (e : D) => keyB k kd (e.at 0)) default = es[es.findIdx fun (e : D) => keyB k kd (e.at 0)] := by simp [List.getD, hi]
  have e2 : keyB k kd ((es[es.findIdx fun (e : D) => keyB k kd (e.at 0)]).at 0) = true := List.findIdx_getElem (p := fun (e : D) => keyB k kd (e.at 0))
  rw [e1, apart_eq ha (List.getElem_mem hi) hm (keyB_trans e2 hk)]
theorem hasK_perm {k : Sh} {es es' : List D} (hp : es'.Perm es) (kd : D) : (es'.any fun e => keyB k kd (e.at 0)) = hasK k es kd := by
  unfold hasK
  rw [Bool.eq_iff_iff, List.any_eq_true, List.any_eq_true]
  constructor
  · rintro ⟨e, he, h⟩; exact ⟨e, hp.mem_iff.1 he, h⟩
  · rintro ⟨e, he, h⟩; exact ⟨e, hp.mem_iff.2 he, h⟩

/-! ### 3. Keys that may be asked -/
theorem chkKey_run : ∀ (d : Nat) (t : TypeId) (x : SV) (u : Value) (N : Nat) (em : Bool) (w' : World), chkKey T d t x = true → d ≤ N → Den ρ Φ w x u → (Instr.checkKey em N t u).run P w' = .ok () w'
  | 0, t, x, u, N, em, w', h, _, _ => by simp [chkKey] at h
  | d + 1, t, x, u, N, em, w', h, hN, hx => by
    obtain ⟨N, rfl⟩ : ∃ m, N = m + 1 := ⟨N - 1, by omega⟩
    unfold chkKey at h
    rw [Instr.checkKey]
    split at h
    · cases h
    · rename_i fs hu
      split at h
      · rename_i cs
        simp only [Den] at hx
        obtain ⟨us, rfl, h1⟩ := hx
        simp only [Sem.run_bind, run_underlying' (P := P) hu, Result.andThen_ok]
        rw [← Array.forIn_toList]
        have IH := fun t x u w'' h a => chkKey_run d t x u N em w'' h (by omega) a
        generalize fs.toList = L at h
        induction L with
        | nil => simp
        | cons f L ih =>
          unfold chkKey.fields at h
          simp only [List.forIn_cons]
          split at h
          · rename_i hn
            have hn' : f.name = "_" := by simpa using hn
            simp only [hn', ne_eq, not_true_eq_false, if_false, Sem.run_bind, Sem.run_pure, Result.andThen_ok]
            exact ih h
          · rename_i hn
            have hn' : f.name ≠ "_" := by simpa using hn
            split at h
            · rename_i a ha
              simp only [Bool.and_eq_true] at h
              obtain ⟨u, e1, d1⟩ := part_run (P := P) h1 ha
              simp only [hn', ne_eq, not_false_eq_true, if_true, Sem.run_bind, e1, Result.andThen_ok, IH _ _ _ w' h.1 d1, Sem.run_pure]
              exact ih h.2
            · cases h
      · cases h
    · rename_i len e hu
      split at h
      · rename_i cs n hs
        simp only [Den] at hx
        obtain ⟨us, rfl, h1⟩ := hx
        simp only [Sem.run_bind, run_underlying' (P := P) hu, Result.andThen_ok]
        simp only [Std.Legacy.Range.forIn_eq_forIn_range', Std.Legacy.Range.size, Nat.sub_zero, Nat.add_one_sub_one, Nat.div_one]
        have IH := fun t x u w'' h a => chkKey_run d t x u N em w'' h (by omega) a
        clear hu
        generalize 0 = i at h
        induction len generalizing i with
        | zero => simp
        | succ len ih =>
          unfold chkKey.elems at h
          rw [List.range'_succ]
          simp only [List.forIn_cons]
          split at h
          · rename_i a ha
            simp only [Bool.and_eq_true] at h
            obtain ⟨u, e1, d1⟩ := part_run (P := P) h1 ha
            simp only [Sem.run_bind, sizeT_run (P := P) hs, e1, Result.andThen_ok, IH _ _ _ w' h.1 d1, Sem.run_pure]
            exact ih (i + 1) h.2
          · cases h
      · cases h
    · rename_i d0 hi hs ha hu
      simp only [Sem.run_bind, run_underlying' (P := P) hu, Result.andThen_ok]
      cases d0 <;> first | (exact absurd rfl (hi _)) | (exact absurd rfl (hs _)) | (exact absurd rfl (ha _ _)) | (cases u <;> rfl)
    · cases h
theorem chkKey_und {d : Nat} {t : TypeId} {x : SV} (h : chkKey T d t x = true) : ∃ u, T.underlying t = some u := by
  cases d with
  | zero => simp [chkKey] at h
  | succ d =>
    unfold chkKey at h
    cases hu : T.underlying t with
    | none => rw [hu] at h; cases h
    | some u => exact ⟨u, rfl⟩

/-! ### 4. Keys become data -/
theorem freezeA {k : Sh} (hk : k.atomB = true) {v : SV} {H H' : Hp} {d : D} {x : Value} (h : freeze k v H = some (d, H')) (hd : Den ρ Φ w v x) : DenD Φ w k d x ∧ H' = H := by
  cases k <;> simp only [Sh.atomB] at hk
  case int q =>
    simp only [freeze] at h
    split at h
    · rename_i k' n hv
      split at h
      · rename_i hkb
        simp only [Option.some.injEq, Prod.mk.injEq] at h
        obtain ⟨rfl, rfl⟩ := h
        have := int?_den hv hd
        rw [← kbeq_eq hkb] at this
        exact ⟨by simp only [DenD]; exact this, rfl⟩
      · cases h
    · cases h
  case bool =>
    simp only [freeze] at h
    split at h
    · rename_i b hv
      simp only [Option.some.injEq, Prod.mk.injEq] at h
      obtain ⟨rfl, rfl⟩ := h
      exact ⟨by simp only [DenD]; exact bool?_den hv hd, rfl⟩
    · cases h
  case str =>
    simp only [freeze] at h
    split at h
    · simp only [Option.some.injEq, Prod.mk.injEq] at h
      obtain ⟨rfl, rfl⟩ := h
      simp only [Den] at hd
      exact ⟨by simp only [DenD]; exact hd, rfl⟩
    · cases h
  all_goals cases hk
theorem freezeAs : ∀ {cs : List Sh} {vs : List SV} {H H' : Hp} {ds : List D} {xs : List Value} (pre : List D), cs.all Sh.atomB = true → freezeL cs vs H = some (ds, H') → DenL ρ Φ w vs xs → DenDs Φ w cs (.a (pre ++ ds)) pre.length xs ∧ H' = H
  | [], vs, H, H', ds, xs, pre, _, h, hd => by
    simp only [freezeL] at h
    split at h
    · simp only [Option.some.injEq, Prod.mk.injEq] at h
      obtain ⟨rfl, rfl⟩ := h
      simp only [DenL] at hd
      exact ⟨by simp only [DenDs]; exact hd, rfl⟩
    · cases h
  | c :: r, vs, H, H', ds, xs, pre, hc, h, hd => by
    simp only [List.all_cons, Bool.and_eq_true] at hc
    simp only [freezeL] at h
    split at h
    · rename_i v vt
      split at h
      · rename_i d H1 h1
        split at h
        · rename_i dt H2 h2
          simp only [Option.some.injEq, Prod.mk.injEq] at h
          obtain ⟨rfl, rfl⟩ := h
          simp only [DenL] at hd
          obtain ⟨x, xt, rfl, hd1, hd2⟩ := hd
          obtain ⟨g1, rfl⟩ := freezeA hc.1 h1 hd1
          obtain ⟨g2, g3⟩ := freezeAs (pre ++ [d]) hc.2 h2 hd2
          refine ⟨?_, g3⟩
          simp only [DenDs]
          refine ⟨x, xt, rfl, ?_, ?_⟩
          · have : (D.a (pre ++ d :: dt)).at pre.length = d := by simp [D.at, List.getD]
            rw [this]; exact g1
          · simpa using g2
        · cases h
      · cases h
    · cases h
theorem freezeK {k : Sh} (hk : k.keyish = true) {v : SV} {H' : Hp} {d : D} {x : Value} (h : freeze k v [] = some (d, H')) (hd : Den ρ Φ w v x) : DenD Φ w k d x := by
  cases k with
  | agg cs =>
    simp only [Sh.keyish] at hk
    simp only [freeze] at h
    split at h
    · split at h
      · rename_i vs ds H1 h1
        simp only [Option.some.injEq, Prod.mk.injEq] at h
        obtain ⟨rfl, rfl⟩ := h
        simp only [Den] at hd
        obtain ⟨xs, rfl, hd⟩ := hd
        simp only [DenD]
        exact ⟨xs, rfl, (freezeAs [] hk h1 hd).1⟩
      · cases h
    · cases h
  | _ => all_goals exact (freezeA (by simpa only [Sh.keyish] using hk) h hd).1

/-! ### 5. What a map holds at a key -/
theorem lookupE_run {H : Hp} (hrel : Own ρ H Φ w) {t : TypeId} {x i v : SV} {ok : Bool} {u iu : Value} (hx : Den ρ Φ w x u) (hi : Den ρ Φ w i iu) (h : (lookupE T H t x i ok).run = some v) : ∃ r, (Instr.lookup t u iu ok).run P w = .ok r w ∧ Den ρ Φ w v r := by
  unfold lookupE at h
  split at h
  · rename_i r hr
    obtain ⟨hu, hk, heq, hck, ti, zv, hti, hz, hzd⟩ := (inferInstance : GoodTab P T).mp t r hr
    have hzero : (zeroValue r.et).run P w = .ok zv w := by simp [zeroValue, typeInfo, program, Sem.run, hti, hz, pure]
    split at h
    · rename_i kd hfz
      have hkey := freezeK hk hfz hi
      obtain ⟨d, hd⟩ := chkKey_und (hck kd)
      have hchk : ∀ em, (Instr.checkKey em 10000 r.kt iu).run P w = .ok () w := fun em => chkKey_run (P := P) (T := T) (ρ := ρ) (Φ := Φ) (w := w) 20 r.kt _ iu 10000 em w (hck kd) (by omega) (enc_den.2 hkey)
      have fin : ∀ (es : List MapEntry) (fe : Option (Nat × Value)) (dv : D) (b : Bool) (xv : Value), (Instr.findKey r.kt iu es).run P w = .ok fe w →
          (match fe with | some (_, v) => (v, true) | none => (zv, false)) = (xv, b) → DenD Φ w r.v dv xv → ∀ (m : Value), (m = .map none ∧ es = []) ∨ (∃ g c, m = .map (some g) ∧ w.heap[g]? = some (.map es.toArray c)) →
          ∀ v bv, Den ρ Φ w bv (.bool b) → v = lookR ok (enc r.v dv) bv → ∃ rr, (Instr.lookup t m iu ok).run P w = .ok rr w ∧ Den ρ Φ w v rr := by
        intro es fe dv b xv hfe hxb hdv m hm v bv hbv hv
        have run : (Instr.lookup t m iu ok).run P w = .ok (if ok then .tuple #[xv, .bool b] else xv) w := by
          rcases hm with ⟨rfl, rfl⟩ | ⟨g, c, rfl, hg⟩
          · simp only [Instr.lookup, Sem.run_bind, run_underlying' (P := P) hu, Result.andThen_ok, Sem.run_pure, hchk]
            simp only [hfe, Result.andThen_ok]
            cases fe with
            | none => simp only [Prod.mk.injEq] at hxb; obtain ⟨rfl, rfl⟩ := hxb; simp [hzero]
            | some p => simp only [Prod.mk.injEq] at hxb; obtain ⟨rfl, rfl⟩ := hxb; simp
          · simp only [Instr.lookup, Sem.run_bind, run_underlying' (P := P) hu, Result.andThen_ok, getObj, Sem.run, hg, Sem.run_pure, hchk]
            simp only [hfe, Result.andThen_ok]
            cases fe with
            | none => simp only [Prod.mk.injEq] at hxb; obtain ⟨rfl, rfl⟩ := hxb; simp [hzero]
            | some p => simp only [Prod.mk.injEq] at hxb; obtain ⟨rfl, rfl⟩ := hxb; simp
        refine ⟨_, run, ?_⟩
        subst hv
        cases ok with
        | true =>
          simp only [lookR, Den, if_true]
          exact ⟨[xv, .bool b], rfl, .cons (enc_den.2 hdv) (.one hbv)⟩
        | false => simpa [lookR] using enc_den.2 hdv
      split at h
      · simp only [Tree.run, Option.some.injEq] at h
        simp only [Den] at hx; subst hx
        refine fin [] none r.z false zv (findKey_run (k := r.k) (v := r.v) (es := []) hd heq hkey w rfl) rfl (zden_den hzd) _ (.inl ⟨rfl, rfl⟩) v (.lb false) (by simp [Den]) h.symm
      · rename_i b
        split at h
        · rename_i k' v' es ty ro hb
          split at h
          · rename_i hsh
            simp only [Bool.and_eq_true] at hsh
            have e1 := Sh.beq_eq hsh.1
            have e2 := Sh.beq_eq hsh.2
            subst e1; subst e2
            simp only [Tree.run, Option.some.injEq] at h
            obtain ⟨m, hm, hok⟩ := hrel _ _ hb
            simp only [Den] at hx
            simp only [BlkOK] at hok
            obtain ⟨g, ents, clock, rfl, hg, h1, h2, h3, es', h4, h5⟩ := hok
            obtain ⟨g', hg', rfl⟩ := hx
            rw [hm] at hg'; simp only [Option.some.injEq, Nm.blk.injEq] at hg'; subst hg'
            have hfk := findKey_run (P := P) hd heq hkey w h5
            rcases findE_spec (p := fun e => keyB r.k kd (e.at 0)) 0 h5 with ⟨q1, q2⟩ | ⟨j, d0, x0, q1, q2, q3, q4, q5⟩
            · rw [q1] at hfk
              have hh : hasK r.k es kd = false := by rw [← hasK_perm h4]; exact q2
              refine fin ents none r.z false zv hfk rfl (zden_den hzd) _ (.inr ⟨g, clock, rfl, hg⟩) v (.sb false) (by simp [Den]) ?_
              rw [← h, hh]; rfl
            · rw [q5] at hfk
              obtain ⟨hh, hget⟩ := getK_spec h4 h3 (List.mem_of_getElem? q1) q3
              refine fin ents (some (0 + j, x0.val)) (d0.at 1) true x0.val hfk rfl q4.2 _ (.inr ⟨g, clock, rfl, hg⟩) v (.sb true) (by simp [Den]) ?_
              rw [← h, hh, hget]; rfl
          · simp [Tree.run] at h
        · simp [Tree.run] at h
      · simp [Tree.run] at h
    · simp [Tree.run] at h
  · simp [Tree.run] at h
end
end Go.Sy
