/-
  Names that are no more needed go, the others are told anew ('relab', 'clean'); a loop whose round is known ('loop_good').
  No statement of the seat is proved here. Conditions: none.
-/
import Derived.Test.YtmokkonnilmdfaaY20
set_option linter.unusedSimpArgs false
set_option linter.unusedVariables false
namespace Go.Sy
open Go.RowKit

mutual
/-- All names pass. -/
def SV.okN (p : Nat → Bool) : SV → Bool
  | .ref b _ => p b
  | .rref b _ _ _ => p b
  | .sl b _ _ _ => p b
  | .own b => p b
  | .osl b _ _ _ => p b
  | .cut b _ _ _ => p b
  | .mp b => p b
  | .agg cs => SV.okNL p cs
  | .tup vs => SV.okNL p vs
  | .clo _ first caps => SV.okNL p first && SV.okNL p caps
  | _ => true
def SV.okNL (p : Nat → Bool) : List SV → Bool
  | [] => true
  | c :: r => SV.okN p c && SV.okNL p r
end
mutual
def SV.names : SV → List Nat
  | .ref b _ => [b]
  | .rref b _ _ _ => [b]
  | .sl b _ _ _ => [b]
  | .own b => [b]
  | .osl b _ _ _ => [b]
  | .cut b _ _ _ => [b]
  | .mp b => [b]
  | .agg cs => SV.namesL cs
  | .tup vs => SV.namesL vs
  | .clo _ first caps => SV.namesL first ++ SV.namesL caps
  | _ => []
def SV.namesL : List SV → List Nat
  | [] => []
  | c :: r => SV.names c ++ SV.namesL r
end
def okNB (p : Nat → Bool) : Blk → Bool
  | ⟨.cells cs, _, _⟩ => SV.okNL p cs
  | _ => true
def namesB : Option Blk → List Nat
  | some ⟨.cells cs, _, _⟩ => SV.namesL cs
  | _ => []

section
variable {ρ ρ' : Names} {Φ : Nat → Prop} {w : World} {p : Nat → Bool}
mutual
theorem den_okN (hp : ∀ k, p k = true → ρ' k = ρ k) : ∀ {v : SV} {x : Value}, v.okN p = true → Den ρ Φ w v x → Den ρ' Φ w v x
  | .li .., x, _, h | .si .., x, _, h | .lb _, x, _, h | .sb _, x, _, h | .str _, x, _, h | .val _, x, _, h | .lref .., x, _, h | .lst .., x, _, h | .emp _, x, _, h => by simpa [Den] using h
  | .any, x, _, h => by simp [Den]
  | .osl b sz lo hi, x, hl, h => by simp only [Den, hp b hl] at h ⊢; exact h
  | .cut b sz lo hi, x, hl, h => by simp only [Den, hp b hl] at h ⊢; exact h
  | .ref b off, x, hl, h => by simp only [Den, hp b hl] at h ⊢; exact h
  | .rref b sz i off, x, hl, h => by simp only [Den, hp b hl] at h ⊢; exact h
  | .sl b off len cap, x, hl, h => by simp only [Den, hp b hl] at h ⊢; exact h
  | .own b, x, hl, h => by simp only [Den, hp b hl] at h ⊢; exact h
  | .mp b, x, hl, h => by simp only [Den, hp b hl] at h ⊢; exact h
  | .agg cs, x, hl, h => by
    simp only [SV.okN] at hl
    simp only [Den] at h ⊢
    obtain ⟨vs, h1, h2⟩ := h; exact ⟨vs, h1, denL_okN hp hl h2⟩
  | .tup cs, x, hl, h => by
    simp only [SV.okN] at hl
    simp only [Den] at h ⊢
    obtain ⟨vs, h1, h2⟩ := h; exact ⟨vs, h1, denL_okN hp hl h2⟩
  | .clo fn first caps, x, hl, h => by
    simp only [SV.okN, Bool.and_eq_true] at hl
    simp only [Den] at h ⊢
    obtain ⟨fs, cs, h1, h2, h3⟩ := h; exact ⟨fs, cs, h1, denL_okN hp hl.1 h2, denL_okN hp hl.2 h3⟩
theorem denL_okN (hp : ∀ k, p k = true → ρ' k = ρ k) : ∀ {l : List SV} {vs : List Value}, SV.okNL p l = true → DenL ρ Φ w l vs → DenL ρ' Φ w l vs
  | [], vs, _, h => by simpa [DenL] using h
  | c :: r, vs, hl, h => by
    simp only [SV.okNL, Bool.and_eq_true] at hl
    simp only [DenL] at h ⊢
    obtain ⟨v, rest, h1, h2, h3⟩ := h; exact ⟨v, rest, h1, den_okN hp hl.1 h2, denL_okN hp hl.2 h3⟩
end
theorem blk_okN (hp : ∀ k, p k = true → ρ' k = ρ k) {m : Nm} {b : Blk} (hb : okNB p b = true) (h : BlkOK ρ Φ w m b) : BlkOK ρ' Φ w m b := by
  obtain ⟨con, ty, ro⟩ := b
  cases con with
  | cells cs =>
    simp only [okNB] at hb
    simp only [BlkOK] at h ⊢
    obtain ⟨g, vs, h1, h2, h3⟩ := h; exact ⟨g, vs, h1, h2, denL_okN hp hb h3⟩
  | rows e nl xs => simp only [BlkOK] at h ⊢; exact h
  | mapc k v es => simp only [BlkOK] at h ⊢; exact h
end

/-! ### 1. Names told anew -/
def findI : List Nat → Nat → Nat → Option Nat
  | [], _, _ => none
  | x :: r, k, i => match Nat.beq x k with
    | true => some i
    | false => findI r k (i + 1)
theorem findI_spec : ∀ (l : List Nat) (k i j : Nat), findI l k i = some j → i ≤ j ∧ l[j - i]? = some k
  | [], k, i, j, h => by simp [findI] at h
  | x :: r, k, i, j, h => by
    simp only [findI] at h
    split at h
    · rename_i hb
      simp only [Option.some.injEq] at h; subst h
      simp only [Nat.beq_eq] at hb; subst hb
      simp
    · obtain ⟨h1, h2⟩ := findI_spec r k (i + 1) j h
      refine ⟨by omega, ?_⟩
      have : j - i = (j - (i + 1)) + 1 := by omega
      rw [this]; simpa using h2
theorem findI_none : ∀ (l : List Nat) (k i : Nat), findI l k i = none → k ∉ l
  | [], k, i, _ => by simp
  | x :: r, k, i, h => by
    simp only [findI] at h
    split at h
    · cases h
    · rename_i hb
      have := findI_none r k (i + 1) h
      have hx := nbf.1 hb
      simp only [List.mem_cons, not_or]
      exact ⟨fun e => hx e.symm, this⟩

/-- The new name: those of 'ks' stand from 'base' on. -/
def relab (base : Nat) (ks : List Nat) (k : Nat) : Nat := match findI ks k 0 with
  | some i => base + i
  | none => k
/-- Has it a new name, or one that stays? -/
def relabOk (base : Nat) (ks : List Nat) (k : Nat) : Bool := match findI ks k 0 with
  | some _ => true
  | none => Nat.blt k base
/-- The names below 'base' whose blocks stay. -/
def relabLow (base : Nat) (ks : List Nat) : Nat → Hp → Hp
  | _, [] => []
  | j, o :: r => match Nat.blt j base with
    | true => (match findI ks j 0 with
      | some _ => none
      | none => renO (relab base ks) o) :: relabLow base ks (j + 1) r
    | false => []
def relabH (base : Nat) (ks : List Nat) (H : Hp) : Hp := relabLow base ks 0 H ++ ks.map fun k => renO (relab base ks) (H.getD k none)
/-- Are all names within those that are kept? -/
def relabFine (base : Nat) (ks : List Nat) (H : Hp) : Bool :=
  Nat.ble base H.length && nodupB ks && thereB H ks && fine 0 H && ks.all fun k => match hget H k with
    | some b => okNB (relabOk base ks) b
    | none => false
where
  fine : Nat → Hp → Bool
    | _, [] => true
    | j, o :: r => match Nat.blt j base with
      | true => (match findI ks j 0, o with
        | none, some b => okNB (relabOk base ks) b
        | _, _ => true) && fine (j + 1) r
      | false => true
def relabN (base : Nat) (ks : List Nat) (ρ : Names) : Names := fun k => if k < base then ρ k else (ks[k - base]?).bind ρ

theorem relabLow_get (base : Nat) (ks : List Nat) : ∀ (H : Hp) (j k : Nat), (relabLow base ks j H)[k]? = if j + k < base ∧ k < H.length then some (match findI ks (j + k) 0 with
    | some _ => none
    | none => renO (relab base ks) (H.getD k none)) else none
  | [], j, k => by simp [relabLow]
  | o :: r, j, k => by
    simp only [relabLow]
    split
    · rename_i hb
      have hb' := nlt.1 hb
      cases k with
      | zero =>
        simp only [List.getElem?_cons_zero, Nat.add_zero, List.length_cons, List.getD_cons_zero]
        rw [if_pos (by omega)]
      | succ k =>
        simp only [List.getElem?_cons_succ, List.length_cons, List.getD_cons_succ]
        rw [relabLow_get base ks r (j + 1) k]
        have e : j + 1 + k = j + (k + 1) := by omega
        rw [e]
        by_cases h : j + (k + 1) < base ∧ k < r.length
        · rw [if_pos h, if_pos ⟨h.1, by omega⟩]
        · rw [if_neg h, if_neg (by omega)]
    · rename_i hb
      have hb' := nltf.1 hb
      rw [if_neg (by omega)]; simp
theorem relabLow_length (base : Nat) (ks : List Nat) : ∀ (H : Hp) (j : Nat), (relabLow base ks j H).length = min H.length (base - j)
  | [], j => by simp [relabLow]
  | o :: r, j => by
    simp only [relabLow]
    split
    · rename_i hb
      have hb' := nlt.1 hb
      simp only [List.length_cons, relabLow_length base ks r (j + 1)]; omega
    · rename_i hb
      have hb' := nltf.1 hb
      simp only [List.length_nil, List.length_cons]; omega
theorem fine_spec (base : Nat) (ks : List Nat) : ∀ (H : Hp) (j : Nat), relabFine.fine base ks j H = true → ∀ k b, j + k < base → findI ks (j + k) 0 = none → H[k]? = some (some b) → okNB (relabOk base ks) b = true
  | [], j, _, k, b, _, _, hk => by simp at hk
  | o :: r, j, h, k, b, hk, hf, hb => by
    simp only [relabFine.fine] at h
    split at h
    · rename_i hlt
      simp only [Bool.and_eq_true] at h
      cases k with
      | zero =>
        simp only [List.getElem?_cons_zero, Option.some.injEq] at hb; subst hb
        have h1 := h.1
        rw [Nat.add_zero] at hf
        rw [hf] at h1; exact h1
      | succ k =>
        exact fine_spec base ks r (j + 1) h.2 k b (by omega) (by rw [Nat.add_assoc, Nat.add_comm 1 k]; exact hf) (by simpa using hb)
    · rename_i hlt
      have := nltf.1 hlt
      omega

section
variable {ρ : Names} {H : Hp} {Φ : Nat → Prop} {w : World} {base : Nat} {ks : List Nat}

theorem relabN_at {k : Nat} (h : relabOk base ks k = true) : relabN base ks ρ (relab base ks k) = ρ k := by
  unfold relabOk at h
  unfold relab relabN
  cases hf : findI ks k 0 with
  | some i =>
    simp only
    rw [if_neg (by omega)]
    have := (findI_spec ks k 0 i hf).2
    rw [Nat.sub_zero] at this
    have e : base + i - base = i := by omega
    rw [e, this]; rfl
  | none =>
    rw [hf] at h
    simp only
    rw [if_pos (nlt.1 h)]
theorem relab_den {v : SV} {x : Value} (hv : v.okN (relabOk base ks) = true) (h : Den ρ Φ w v x) : Den (relabN base ks ρ) Φ w (v.ren (relab base ks)) x := by
  rw [den_ren]
  exact den_okN (fun k hk => relabN_at hk) hv h
theorem relab_blk {m : Nm} {b : Blk} (hv : okNB (relabOk base ks) b = true) (h : BlkOK ρ Φ w m b) : BlkOK (relabN base ks ρ) Φ w m (b.ren (relab base ks)) := by
  rw [blk_ren]
  exact blk_okN (fun k hk => relabN_at hk) hv h
theorem relabN_named {q : Nat} (h : Named (relabN base ks ρ) q) : Named ρ q := by
  obtain ⟨k, m, hk, hm⟩ := h
  unfold relabN at hk
  split at hk
  · exact ⟨k, m, hk, hm⟩
  · cases hg : ks[k - base]? with
    | none => rw [hg] at hk; cases hk
    | some g => rw [hg] at hk; exact ⟨g, m, hk, hm⟩
theorem relabN_low {k : Nat} (h : k < base) : relabN base ks ρ k = ρ k := by unfold relabN; rw [if_pos h]

theorem relab_rel (hr : Rel ρ H Φ w) (hf : relabFine base ks H = true) : Rel (relabN base ks ρ) (relabH base ks H) Φ w := by
  unfold relabFine at hf
  simp only [Bool.and_eq_true, Nat.ble_eq] at hf
  obtain ⟨⟨⟨⟨hbase, hnd⟩, hthere⟩, hfine⟩, hks⟩ := hf
  have hn := nodupB_spec hnd
  have hlen : (relabLow base ks 0 H).length = base := by rw [relabLow_length]; omega
  -- each block was one
  have one : ∀ k b, hget (relabH base ks H) k = some b → ∃ k0 b0, hget H k0 = some b0 ∧ b = b0.ren (relab base ks) ∧ okNB (relabOk base ks) b0 = true ∧ relabN base ks ρ k = ρ k0 ∧ k = relab base ks k0 := by
    intro k b hk
    rw [hget_iff] at hk
    unfold relabH at hk
    rcases Nat.lt_or_ge k base with hlt | hge
    · rw [List.getElem?_append_left (by omega), relabLow_get] at hk
      rw [Nat.zero_add] at hk
      rw [if_pos ⟨hlt, by omega⟩] at hk
      cases hfi : findI ks k 0 with
      | some i => rw [hfi] at hk; simp at hk
      | none =>
        rw [hfi] at hk
        simp only [Option.some.injEq] at hk
        have hkl : k < H.length := by omega
        rw [List.getD_eq_getElem?_getD, List.getElem?_eq_getElem hkl] at hk
        cases ho : H[k] with
        | none => rw [ho] at hk; simp [renO] at hk
        | some b0 =>
          rw [ho] at hk
          simp only [Option.getD_some, renO, Option.some.injEq] at hk
          have hg : H[k]? = some (some b0) := by rw [List.getElem?_eq_getElem hkl, ho]
          refine ⟨k, b0, hget_iff.2 hg, hk.symm, fine_spec base ks H 0 hfine k b0 (by omega) (by rw [Nat.zero_add]; exact hfi) hg, relabN_low hlt, ?_⟩
          unfold relab; rw [hfi]
    · rw [List.getElem?_append_right (by omega), hlen, List.getElem?_map] at hk
      cases hg : ks[k - base]? with
      | none => rw [hg] at hk; simp at hk
      | some g =>
        rw [hg] at hk
        simp only [Option.map_some, Option.some.injEq] at hk
        have hmem := List.mem_of_getElem? hg
        have h1 := List.all_eq_true.1 hks g hmem
        cases hb0 : hget H g with
        | none => rw [hb0] at h1; cases h1
        | some b0 =>
          rw [hb0] at h1
          have hg2 := hget_iff.1 hb0
          rw [List.getD_eq_getElem?_getD, hg2] at hk
          simp only [Option.getD_some, renO, Option.some.injEq] at hk
          refine ⟨g, b0, hb0, hk.symm, h1, ?_, ?_⟩
          · unfold relabN; rw [if_neg (by omega), hg]; rfl
          · unfold relab
            cases hfi : findI ks g 0 with
            | none => exact absurd hmem (findI_none _ _ _ hfi)
            | some i =>
              have h2 := (findI_spec ks g 0 i hfi).2
              rw [Nat.sub_zero] at h2
              simp only
              have i1 := List.getElem?_eq_some_iff.1 hg
              have i2 := List.getElem?_eq_some_iff.1 h2
              have := (List.getElem_inj hn).1 (i1.2.trans i2.2.symm)
              omega
  refine ⟨?_, ?_, ?_, ?_, hr.phi, ?_⟩
  · intro k b hk
    obtain ⟨k0, b0, h1, rfl, h3, h4, _⟩ := one k b hk
    obtain ⟨m, hm, hok⟩ := hr.own k0 b0 h1
    exact ⟨m, by rw [h4]; exact hm, relab_blk h3 hok⟩
  · intro k b m q hk hm hq hro
    obtain ⟨k0, b0, h1, rfl, h3, h4, _⟩ := one k b hk
    rw [h4] at hm
    exact hr.apart k0 b0 m q h1 hm hq hro
  · intro k b m q hk hm hq hro
    obtain ⟨k0, b0, h1, rfl, h3, h4, _⟩ := one k b hk
    rw [h4] at hm
    exact hr.kept k0 b0 m q h1 hm hq hro
  · intro k k' b b' m m' q hk hk' hro hro' hm hm' hq hq'
    obtain ⟨k0, b0, h1, rfl, h3, h4, h5⟩ := one k b hk
    obtain ⟨k0', b0', h1', rfl, h3', h4', h5'⟩ := one k' b' hk'
    rw [h4] at hm
    rw [h4'] at hm'
    have := hr.inj k0 k0' b0 b0' m m' q h1 h1' hro hro' hm hm' hq hq'
    rw [h5, h5', this]
  · intro k m hm
    unfold relabH
    rw [List.length_append, hlen, List.length_map]
    unfold relabN at hm
    split at hm
    · omega
    · cases hg : ks[k - base]? with
      | none => rw [hg] at hm; cases hm
      | some g => have := (List.getElem?_eq_some_iff.1 hg).1; omega
end

/-! ### 2. Which names are needed -/
def memB : List Nat → Nat → Bool
  | [], _ => false
  | x :: r, k => match Nat.beq x k with
    | true => true
    | false => memB r k
/-- All that is reached, but for what stays below 'base'. -/
def reach (base : Nat) (mv : List Nat) (H : Hp) : Nat → List Nat → List Nat → List Nat
  | 0, _, acc => acc
  | _ + 1, [], acc => acc
  | n + 1, k :: todo, acc => match memB acc k || (Nat.blt k base && !memB mv k) with
    | true => reach base mv H n todo acc
    | false => reach base mv H n (namesB (H.getD k none) ++ todo) (acc ++ [k])
def lowNames (base : Nat) (mv : List Nat) : Nat → Hp → List Nat
  | _, [] => []
  | j, o :: r => match Nat.blt j base with
    | true => (match memB mv j with
      | true => []
      | false => namesB o) ++ lowNames base mv (j + 1) r
    | false => []

/-- A call's result, and the blocks that it needs. -/
def gcR (n : Nat) (x : SV × Hp) : Tree (SV × Hp) :=
  match Nat.ble x.2.length n with
  | true => .ret x
  | false =>
    let ks := reach n [] x.2 1000 (x.1.names ++ lowNames n [] 0 x.2) []
    match relabFine n ks x.2 && x.1.okN (relabOk n ks) with
    | true => .ret (x.1.ren (relab n ks), relabH n ks x.2)
    | false => .bad "what is needed of the heap"

theorem CallOK.gc {P : Program} {f : FuncId} {as : List SV} {H H' H2 : Hp} {r r2 : SV} (h : CallOK P f as H r H') {n : Nat} (hn : H.length ≤ n) (hg : (gcR n (r, H')).run = some (r2, H2)) : CallOK P f as H r2 H2 := by
  unfold gcR at hg
  split at hg
  · simp only [Tree.run, Option.some.injEq, Prod.mk.injEq] at hg
    obtain ⟨rfl, rfl⟩ := hg
    exact h
  · simp only at hg
    generalize reach n [] H' 1000 (r.names ++ lowNames n [] 0 H') [] = ks at hg
    split at hg
    · rename_i hc
      simp only [Bool.and_eq_true] at hc
      simp only [Tree.run, Option.some.injEq, Prod.mk.injEq] at hg
      obtain ⟨rfl, rfl⟩ := hg
      intro ρ Φ w vs hr hd
      refine (h ρ Φ w vs hr hd).mono ?_
      rintro e w' ⟨v, ρ', Φ', rfl, hv, hr', g⟩
      refine ⟨v, relabN n ks ρ', Φ', rfl, relab_den hc.2 hv, relab_rel hr' hc.1, ⟨⟨fun k m hk => ?_, g.phi, g.ext⟩, g.back, fun q hq => g.fresh q (relabN_named hq), g.frame⟩⟩
      have := hr.dom k m hk
      rw [relabN_low (by omega)]; exact g.names k m hk
    · simp [Tree.run] at hg

/-! ### 3. Numbers that are written out, as numbers -/
mutual
def SV.norm : SV → SV
  | .li k n => .si k n
  | .lb b => .sb b
  | .agg cs => .agg (SV.normL cs)
  | .tup vs => .tup (SV.normL vs)
  | .clo fn first caps => .clo fn (SV.normL first) (SV.normL caps)
  | .si k n => .si k n
  | .sb b => .sb b
  | .str s => .str s
  | .val v => .val v
  | .ref b off => .ref b off
  | .rref b sz i off => .rref b sz i off
  | .lref e xs i off => .lref e xs i off
  | .sl b off len cap => .sl b off len cap
  | .own b => .own b
  | .osl b sz lo hi => .osl b sz lo hi
  | .cut b sz lo hi => .cut b sz lo hi
  | .emp nl => .emp nl
  | .any => .any
  | .lst e nl xs => .lst e nl xs
  | .mp b => .mp b
def SV.normL : List SV → List SV
  | [] => []
  | c :: r => SV.norm c :: SV.normL r
end
/-- All but those of a mask. -/
def SV.normLM (m : Nat) : Nat → List SV → List SV
  | _, [] => []
  | j, c :: r => (match Nat.testBit m j with
    | true => c
    | false => c.norm) :: SV.normLM m (j + 1) r
def normB (m : Nat) : Option Blk → Option Blk
  | some ⟨.cells cs, ty, ro⟩ => some ⟨.cells (SV.normLM m 0 cs), ty, ro⟩
  | b => b
section
variable {ρ : Names} {Φ : Nat → Prop} {w : World}
mutual
theorem den_norm : ∀ {v : SV} {x : Value}, Den ρ Φ w v.norm x ↔ Den ρ Φ w v x
  | .ref .., x | .rref .., x | .sl .., x | .own _, x | .mp _, x | .li .., x | .si .., x | .lb _, x | .sb _, x | .str _, x | .val _, x | .lref .., x | .lst .., x | .osl .., x | .cut .., x | .emp _, x | .any, x => by simp [SV.norm, Den]
  | .agg cs, x => by simp only [SV.norm, Den, denL_norm]
  | .tup cs, x => by simp only [SV.norm, Den, denL_norm]
  | .clo fn first caps, x => by simp only [SV.norm, Den, denL_norm]
theorem denL_norm : ∀ {l : List SV} {vs : List Value}, DenL ρ Φ w (SV.normL l) vs ↔ DenL ρ Φ w l vs
  | [], vs => by simp [SV.normL, DenL]
  | c :: r, vs => by simp only [SV.normL, DenL, den_norm, denL_norm]
end
theorem denL_normM {m : Nat} : ∀ {j : Nat} {l : List SV} {vs : List Value}, DenL ρ Φ w (SV.normLM m j l) vs ↔ DenL ρ Φ w l vs
  | j, [], vs => by simp [SV.normLM, DenL]
  | j, c :: r, vs => by
    simp only [SV.normLM, DenL, denL_normM]
    split
    · exact Iff.rfl
    · simp only [den_norm]
/-- A block's number, and (thousands) the cells that stay as they are. -/
def normH : List Nat → Hp → Hp
  | [], H => H
  | k :: r, H => normH r (H.set (k % 1000) (normB (k / 1000) (H.getD (k % 1000) none)))
theorem rel_normB {H : Hp} (h : Rel ρ H Φ w) (mk k : Nat) : Rel ρ (H.set k (normB mk (H.getD k none))) Φ w := by
  rcases Nat.lt_or_ge k H.length with hlt | hge
  · have back : ∀ j c, hget (H.set k (normB mk (H.getD k none))) j = some c → ∃ c0, hget H j = some c0 ∧ c0.ro = c.ro ∧ ∀ m, BlkOK ρ Φ w m c0 → BlkOK ρ Φ w m c := by
      intro j c hj
      rw [hget_set hlt] at hj
      split at hj
      · rename_i e; subst e
        rw [List.getD_eq_getElem?_getD, List.getElem?_eq_getElem hlt] at hj
        simp only [Option.getD_some] at hj
        cases ho : H[k] with
        | none => rw [ho] at hj; simp [normB] at hj
        | some b =>
          rw [ho] at hj
          have hb : hget H k = some b := hget_iff.2 (by rw [List.getElem?_eq_getElem hlt, ho])
          obtain ⟨con, ty, ro⟩ := b
          cases con with
          | rows e nl xs =>
            simp only [normB, Option.some.injEq] at hj; subst hj
            exact ⟨_, hb, rfl, fun m hm => hm⟩
          | mapc k v es =>
            simp only [normB, Option.some.injEq] at hj; subst hj
            exact ⟨_, hb, rfl, fun m hm => hm⟩
          | cells cs =>
            simp only [normB, Option.some.injEq] at hj; subst hj
            refine ⟨_, hb, rfl, fun m hm => ?_⟩
            simp only [BlkOK] at hm ⊢
            obtain ⟨g, vs, h1, h2, h3⟩ := hm
            exact ⟨g, vs, h1, h2, denL_normM.2 h3⟩
      · exact ⟨c, hj, rfl, fun m hm => hm⟩
    refine ⟨?_, ?_, ?_, ?_, h.phi, fun j m hm => by simpa using h.dom j m hm⟩
    · intro j c hj
      obtain ⟨c0, h1, h2, h3⟩ := back j c hj
      obtain ⟨m, hm, hok⟩ := h.own j c0 h1
      exact ⟨m, hm, h3 m hok⟩
    · intro j c m q hj hm hq hro
      obtain ⟨c0, h1, h2, h3⟩ := back j c hj
      exact h.apart j c0 m q h1 hm hq (by rw [h2]; exact hro)
    · intro j c m q hj hm hq hro
      obtain ⟨c0, h1, h2, h3⟩ := back j c hj
      exact h.kept j c0 m q h1 hm hq (by rw [h2]; exact hro)
    · intro j j' c c' m m' q hj hj' hro hro' hm hm' hq hq'
      obtain ⟨c0, h1, h2, h3⟩ := back j c hj
      obtain ⟨c0', h1', h2', h3'⟩ := back j' c' hj'
      exact h.inj j j' c0 c0' m m' q h1 h1' (by rw [h2]; exact hro) (by rw [h2']; exact hro') hm hm' hq hq'
  · rw [List.set_eq_of_length_le hge]; exact h
theorem rel_normH : ∀ (l : List Nat) {H : Hp}, Rel ρ H Φ w → Rel ρ (normH l H) Φ w
  | [], H, h => h
  | k :: r, H, h => rel_normH r (rel_normB h _ _)
end

/-! ### 4. A state, told anew -/
def renS (f : Nat → Nat) : Slot → Slot
  | .unk => .unk
  | .is v => .is (v.ren f)
  | .when c v => .when c (v.ren f)
def okS (p : Nat → Bool) : Slot → Bool
  | .unk => true
  | .is v => v.okN p
  | .when _ v => v.okN p
def namesS : Slot → List Nat
  | .unk => []
  | .is v => v.names
  | .when _ v => v.names
/-- The slots of a mask. -/
def keptF (mask : Nat) (tm : Tm) : Nat → Nat → List Slot
  | _, 0 => []
  | i, n + 1 => (match Nat.testBit mask i with
    | true => tm.t.get i
    | false => .unk) :: keptF mask tm (i + 1) n
def keptS (mask : Nat) (tm : Tm) (n : Nat) : List Slot := keptF mask tm 0 n
theorem keptF_length (mask : Nat) (tm : Tm) : ∀ n i, (keptF mask tm i n).length = n
  | 0, i => rfl
  | n + 1, i => by simp [keptF, keptF_length mask tm n]
theorem keptF_get (mask : Nat) (tm : Tm) : ∀ (n i k : Nat), k < n → (keptF mask tm i n)[k]? = some (match Nat.testBit mask (i + k) with
    | true => tm.t.get (i + k)
    | false => .unk)
  | n + 1, i, 0, h => by simp [keptF]
  | n + 1, i, k + 1, h => by
    simp only [keptF, List.getElem?_cons_succ]
    rw [keptF_get mask tm n (i + 1) k (by omega), show i + 1 + k = i + (k + 1) by omega]
theorem keptS_length (mask : Nat) (tm : Tm) (n : Nat) : (keptS mask tm n).length = n := keptF_length mask tm n 0
theorem keptS_get (mask : Nat) (tm : Tm) (n k : Nat) (h : k < n) : (keptS mask tm n)[k]? = some (match Nat.testBit mask k with
    | true => tm.t.get k
    | false => .unk) := by
  have := keptF_get mask tm n 0 k h
  rwa [Nat.zero_add] at this
/-- Numbers in the slots of a mask. -/
def normS : Slot → Slot
  | .is v => .is v.norm
  | s => s
def normM (nm : Nat) : Nat → List Slot → List Slot
  | _, [] => []
  | i, s :: r => (match Nat.testBit nm i with
    | true => normS s
    | false => s) :: normM nm (i + 1) r
theorem normM_length (nm : Nat) : ∀ (l : List Slot) (i : Nat), (normM nm i l).length = l.length
  | [], _ => rfl
  | s :: r, i => by simp [normM, normM_length nm r]
theorem normM_get (nm : Nat) : ∀ (l : List Slot) (i k : Nat) (h : k < l.length), (normM nm i l)[k]'(by rw [normM_length]; exact h) = l[k] ∨ (normM nm i l)[k]'(by rw [normM_length]; exact h) = normS l[k]
  | s :: r, i, 0, h => by
    simp only [normM, List.getElem_cons_zero]
    split
    · exact .inr rfl
    · exact .inl rfl
  | s :: r, i, k + 1, h => by
    simp only [normM, List.getElem_cons_succ]
    exact normM_get nm r (i + 1) k (by simpa using h)
theorem normS_ok {ρ : Names} {Φ : Nat → Prop} {w : World} {s : Slot} {x : Value} (h : s.ok ρ Φ w x) : (normS s).ok ρ Φ w x := by
  cases s with
  | unk => trivial
  | is v => simp only [normS, Slot.ok] at h ⊢; exact den_norm.2 h
  | when c v => exact h
def killH : List Nat → Hp → Hp
  | [], H => H
  | k :: r, H => killH r (H.set k none)
theorem killH_length : ∀ (l : List Nat) (H : Hp), (killH l H).length = H.length
  | [], H => rfl
  | k :: r, H => by simp [killH, killH_length r]
theorem rel_killH {ρ : Names} {Φ : Nat → Prop} {w : World} : ∀ (l : List Nat) {H : Hp}, Rel ρ H Φ w → Rel ρ (killH l H) Φ w
  | [], H, h => h
  | k :: r, H, h => rel_killH r (h.kill k)
/-- 'mask': the slots that are kept; 'nm': those whose numbers are not written out any more; 'nb': the blocks of which that is so, by their new names; 'kl': blocks that go. -/
def clean (base : Nat) (mv : List Nat) (mask nm : Nat) (nb kl : List Nat) (st0 : St) : Option St :=
  let st : St := ⟨st0.tmps, killH kl st0.heap⟩
  let ss := keptS mask st.tmps st.tmps.length
  let ks := reach base mv st.heap 2000 (ss.flatMap namesS ++ lowNames base mv 0 st.heap) []
  match relabFine base ks st.heap && ss.all (okS (relabOk base ks)) with
  | true => some ⟨Tm.of (normM nm 0 (ss.map (renS (relab base ks)))) st.tmps.length, normH nb (relabH base ks st.heap)⟩
  | false => none

theorem clean_sat {ρ : Names} {Φ : Nat → Prop} {st st2 : St} {a : Act} {w : World} {base mask nm : Nat} {mv nb kl : List Nat} (h : clean base mv mask nm nb kl st = some st2) (hs : Sat ρ Φ st a w) :
    ∃ ρ2, (∀ k, k < base → ρ2 k = ρ k) ∧ (∀ q, Named ρ2 q → Named ρ q) ∧ Sat ρ2 Φ st2 a w := by
  unfold clean at h
  simp only at h
  replace hs : Sat ρ Φ ⟨st.tmps, killH kl st.heap⟩ a w := ⟨hs.defers, hs.size, hs.slot, rel_killH kl hs.rel⟩
  generalize killH kl st.heap = HH at h hs
  obtain ⟨tmps0, heap0⟩ := st
  simp only at h hs
  generalize hst : (⟨tmps0, HH⟩ : St) = st at hs
  rw [show tmps0 = st.tmps by rw [← hst], show HH = st.heap by rw [← hst]] at h
  clear hst
  generalize hss : keptS mask st.tmps st.tmps.length = ss at h
  generalize reach base mv st.heap 2000 (ss.flatMap namesS ++ lowNames base mv 0 st.heap) [] = ks at h
  split at h
  · rename_i hc
    simp only [Bool.and_eq_true] at hc
    simp only [Option.some.injEq] at h; subst h
    have hl : ss.length = st.tmps.length := by rw [← hss, keptS_length]
    refine ⟨relabN base ks ρ, fun k hk => relabN_low hk, fun q hq => relabN_named hq, hs.defers, ?_, ?_, rel_normH nb (relab_rel hs.rel hc.1)⟩
    · rw [hs.size]; rfl
    · intro t s ht
      obtain ⟨hlt, hd⟩ := Tm.of_get (by simp [hl, normM_length]) ht
      rw [dif_pos (by simp [hl, normM_length]; exact hlt)] at hd
      have hk : ss[t]? = some (match Nat.testBit mask t with | true => st.tmps.t.get t | false => .unk) := by rw [← hss]; exact keptS_get mask st.tmps _ t hlt
      have hlt' : t < ss.length := by omega
      have hst : ss[t] = (match Nat.testBit mask t with | true => st.tmps.t.get t | false => .unk) := by
        rw [List.getElem?_eq_getElem hlt'] at hk; simpa using hk
      have hok := List.all_eq_true.1 hc.2 ss[t] (List.getElem_mem hlt')
      obtain ⟨x, hx, hsx⟩ := hs.slot t _ (Tm.get_of_lt hlt)
      refine ⟨x, hx, ?_⟩
      have key : (renS (relab base ks) ss[t]).ok (relabN base ks ρ) Φ w x → s.ok (relabN base ks ρ) Φ w x := by
        intro hk2
        have hlm : t < (ss.map (renS (relab base ks))).length := by simpa using hlt'
        rcases normM_get nm (ss.map (renS (relab base ks))) 0 t hlm with e | e
        · rw [hd, e, List.getElem_map]; exact hk2
        · rw [hd, e, List.getElem_map]; exact normS_ok hk2
      apply key
      rw [hst] at hok ⊢
      split
      · rename_i hb
        rw [hb] at hok
        simp only at hok
        have e : st.tmps[t] = st.tmps.t.get t := rfl
        rw [e] at hsx
        cases hv : st.tmps.t.get t with
        | unk => trivial
        | is v =>
          rw [hv] at hsx hok
          exact relab_den hok hsx
        | when c v =>
          rw [hv] at hsx hok
          simp only [renS, Slot.ok] at hsx ⊢
          split
          · rename_i hcc; rw [if_pos hcc] at hsx; exact relab_den hok hsx
          · rename_i hcc; rw [if_neg hcc] at hsx; exact hsx
      · trivial
  · cases h

/-! ### 4a. A nil list that is to grow -/
def isNilSV : SV → Bool
  | .val (.slice none l c) => Nat.beq l 0 && Nat.beq c 0
  | .lst _ true [] => true
  | _ => false
theorem isNilSV_den {ρ : Names} {Φ : Nat → Prop} {w : World} {v : SV} {x : Value} (h : isNilSV v = true) (hd : Den ρ Φ w v x) : x = .slice none 0 0 := by
  unfold isNilSV at h
  split at h
  · simp only [Bool.and_eq_true, Nat.beq_eq] at h
    obtain ⟨rfl, rfl⟩ := h
    simpa [Den] using hd
  · exact den_nil_lst.1 hd
  · cases h
/-- A place (a slot, or a block's cell), the shape and the type of a row. -/
structure Place where
  blk : Option Nat
  at_ : Nat
  sh : Sh
  ty : TypeId
/-- Numbers of a kind. -/
def intsOf (k : IntKind) : List SV → Option (List D)
  | [] => some []
  | c :: r => match c.int?, intsOf k r with
    | some (k', n), some l => match kbeq k k' with
      | true => some (.i n :: l)
      | false => none
    | _, _ => none
/-- An array of numbers, as rows. -/
def arrify (q : Place) (v : SV) (st : St) : St := match v with
  | .ref b off => match Nat.beq off 0, q.sh, hget st.heap b with
    | true, .int k, some ⟨.cells cs, ty, false⟩ => match intsOf k cs with
      | some xs => match Nat.blt 0 xs.length && Nat.ble xs.length maxLen with
        | true => (⟨st.tmps.set q.at_ (.is (.rref st.heap.length 1 0 0)), st.heap.set b none ++ [some (Blk.mk (.rows (.int k) false xs) ty false)]⟩ : St)
        | false => st
      | none => st
    | _, _, _ => st
  | _ => st
def ownify (q : Place) (st : St) : St := match q.blk with
  | none => match st.tmps[q.at_]? with
    | some (.is v) => match isNilSV v with
      | true => (⟨st.tmps.set q.at_ (.is (.own st.heap.length)), st.heap ++ [some ⟨.rows q.sh true [], q.ty, false⟩]⟩ : St)
      | false => arrify q v st
    | _ => st
  | some b => match hget st.heap b with
    | some ⟨.cells cs, ty, false⟩ => match cs[q.at_]? with
      | some v => match isNilSV v with
        | true => (⟨st.tmps, (st.heap ++ [some (Blk.mk (.rows q.sh true []) q.ty false)]).set b (some ⟨.cells (cs.set q.at_ (.own st.heap.length)), ty, false⟩)⟩ : St)
        | false => st
      | none => st
    | _ => st
def ownAll : List Place → St → St
  | [], st => st
  | q :: r, st => ownAll r (ownify q st)
section
variable {ρ : Names} {Φ : Nat → Prop} {w : World} {st : St} {a : Act}
theorem DenL.put {ρ : Names} {Φ : Nat → Prop} {w : World} : ∀ {l : List SV} {vs : List Value} {j : Nat} {v : SV} {x : Value}, DenL ρ Φ w l vs → vs[j]? = some x → Den ρ Φ w v x → DenL ρ Φ w (l.set j v) vs
  | [], vs, j, v, x, h, _, _ => by simpa using h
  | c :: r, vs, 0, v, x, h, hx, hv => by
    obtain ⟨y, rest, rfl, h1, h2⟩ := h
    simp only [List.getElem?_cons_zero, Option.some.injEq] at hx; subst hx
    exact ⟨y, rest, rfl, hv, h2⟩
  | c :: r, vs, j + 1, v, x, h, hx, hv => by
    obtain ⟨y, rest, rfl, h1, h2⟩ := h
    exact ⟨y, rest, rfl, h1, h2.put (by simpa using hx) hv⟩
theorem intsOf_rows {k : IntKind} : ∀ {cs : List SV} {xs : List D} {vs : List Value}, intsOf k cs = some xs → DenL ρ Φ w cs vs → RowsP (fun d v => DenD Φ w (.int k) d v) false 1 xs vs ∧ xs.length = vs.length
  | [], xs, vs, h, hd => by
    simp only [intsOf, Option.some.injEq] at h; subst h
    simp only [DenL] at hd; subst hd
    exact ⟨rfl, rfl⟩
  | c :: r, xs, vs, h, hd => by
    simp only [intsOf] at h
    split at h
    · rename_i k' n l hi hl
      split at h
      · rename_i hk
        simp only [Option.some.injEq] at h; subst h
        simp only [DenL] at hd
        obtain ⟨v, rest, rfl, h1, h2⟩ := hd
        obtain ⟨g1, g2⟩ := intsOf_rows hl h2
        have := int?_den hi h1
        subst this
        have hkk := kbeq_eq hk
        subst hkk
        refine ⟨⟨[.int k n], rest, rfl, rfl, ?_, g1⟩, by simp [g2]⟩
        simp [packV, DenD, D.int]
      · cases h
    · cases h
theorem arrify_sat (q : Place) (v : SV) (hv : st.tmps[q.at_]? = some (.is v)) (hs : Sat ρ Φ st a w) : ∃ ρ2, (∀ k m, ρ k = some m → ρ2 k = some m) ∧ (∀ q, Named ρ2 q → Named ρ q) ∧ Sat ρ2 Φ (arrify q v st) a w := by
  have same : ∃ ρ2, (∀ k m, ρ k = some m → ρ2 k = some m) ∧ (∀ q, Named ρ2 q → Named ρ q) ∧ Sat ρ2 Φ st a w := ⟨ρ, fun _ _ h => h, fun _ h => h, hs⟩
  unfold arrify
  split
  · rename_i b off
    split
    · rename_i k cs ty hoff hsh hb
      split
      · rename_i xs hxs
        split
        · rename_i hc
          simp only [Bool.and_eq_true, Nat.ble_eq] at hc
          obtain ⟨hpos, hmax⟩ := hc
          have hpos' : 0 < xs.length := nlt.1 hpos
          have hoff' : off = 0 := by simpa using hoff
          subst hoff'
          obtain ⟨m, hm, hok⟩ := hs.rel.own _ _ hb
          simp only [BlkOK] at hok
          obtain ⟨g, vs, rfl, h2, h3⟩ := hok
          obtain ⟨hrows, hlen⟩ := intsOf_rows hxs h3
          have hap := hs.rel.apart _ _ _ _ hb hm rfl rfl
          have hblt := hget_lt hb
          have hadd := (hs.rel.kill b).add (w' := w) (m := .row g 0 xs.length xs.length) (b := ⟨.rows (.int k) false xs, ty, false⟩) rfl (Ext.refl _ _) (fun _ _ _ _ _ _ _ => rfl) (fun q hq => by
            simp only [Nm.block, Option.some.injEq] at hq; subst hq
            refine ⟨hap, fun j c m' hj hro hm' e => ?_⟩
            rw [hget_set hblt] at hj
            split at hj
            · cases hj
            · rename_i hne
              exact hne (hs.rel.inj _ _ _ _ _ _ _ hb hj rfl hro hm hm' rfl e)) (BlkOK.row_ rfl (Nat.le_refl _) hmax h2 (by simp [Sh.size, hlen]) (by
            rw [List.drop_zero, List.take_of_length_le (by simp [Sh.size, hlen])]
            exact hrows))
          have hl : (st.heap.set b none).length = st.heap.length := by simp
          have g0 := (hs.rel.kill b).gro_named (w' := w) (.row g 0 xs.length xs.length) (Ext.refl _ _)
          rw [hl] at hadd g0
          have hn : ∀ k, Named (named ρ st.heap.length (.row g 0 xs.length xs.length)) k → Named ρ k := fun k hk => (Named.of_named hk).elim (fun h => ⟨b, _, hm, by simp only [Nm.block, Option.some.injEq] at h ⊢; exact h⟩) id
          refine ⟨named ρ st.heap.length (.row g 0 xs.length xs.length), g0.names, hn, hs.defers, by simp [Tm.length_set, hs.size], ?_, hadd⟩
          intro t s ht
          simp only at ht
          rw [Tm.getElem?_set] at ht
          obtain ⟨x, hx, hd⟩ := hs.slot _ _ hv
          split at ht
          · rename_i he
            subst he
            split at ht
            · simp only [Option.some.injEq] at ht; subst ht
              refine ⟨_, hx, ?_⟩
              simp only [Slot.ok, Den] at hd ⊢
              obtain ⟨g', hg', rfl⟩ := hd
              rw [hm] at hg'; simp only [Option.some.injEq, Nm.blk.injEq] at hg'; subst hg'
              exact ⟨g, 0, _, _, named_at .., hpos', by simp⟩
            · simp at ht
          · obtain ⟨x, hx, ho⟩ := hs.slot t s ht
            exact ⟨x, hx, Slot.ok_mono g0 ho⟩
        · exact same
      · exact same
    · exact same
  · exact same
theorem ownify_sat (q : Place) (hs : Sat ρ Φ st a w) : ∃ ρ2, (∀ k m, ρ k = some m → ρ2 k = some m) ∧ (∀ q, Named ρ2 q → Named ρ q) ∧ Sat ρ2 Φ (ownify q st) a w := by
  have same : ∃ ρ2, (∀ k m, ρ k = some m → ρ2 k = some m) ∧ (∀ q, Named ρ2 q → Named ρ q) ∧ Sat ρ2 Φ st a w := ⟨ρ, fun _ _ h => h, fun _ h => h, hs⟩
  have hadd := hs.rel.add (w' := w) (m := .emp none) (b := ⟨.rows q.sh true [], q.ty, false⟩) rfl (Ext.refl _ _) (fun _ _ _ _ _ _ _ => rfl) (fun q hq => by cases hq) (BlkOK.emp_ rfl)
  have g := hs.rel.gro_named (w' := w) (.emp none) (Ext.refl _ _)
  have hn : ∀ k, Named (named ρ st.heap.length (.emp none)) k → Named ρ k := fun k hk => (Named.of_named hk).elim (fun h => by cases h) id
  unfold ownify
  split
  · split
    · rename_i v hv
      split
      · rename_i hnil
        obtain ⟨x, hx, hd⟩ := hs.slot _ _ hv
        have hx0 := isNilSV_den hnil hd
        subst hx0
        refine ⟨named ρ st.heap.length (.emp none), g.names, hn, hs.defers, by simp [Tm.length_set, hs.size], ?_, hadd⟩
        intro t s ht
        simp only at ht
        rw [Tm.getElem?_set] at ht
        split at ht
        · rename_i he
          subst he
          split at ht
          · simp only [Option.some.injEq] at ht; subst ht
            exact ⟨_, hx, own_emp (Φ := Φ) (w := w) (named_at ..)⟩
          · simp at ht
        · obtain ⟨x, hx, ho⟩ := hs.slot t s ht
          exact ⟨x, hx, Slot.ok_mono g ho⟩
      · exact arrify_sat q v hv hs
    · exact same
  · rename_i b hblk
    split
    · rename_i cs ty hb
      split
      · rename_i v hv
        split
        · rename_i hnil
          have hlt := hget_lt hb
          obtain ⟨m, hm, hok⟩ := hs.rel.own _ _ hb
          have hok' := hok
          simp only [BlkOK] at hok'
          obtain ⟨gg, vs, h1, h2, h3⟩ := hok'
          obtain ⟨x, hx, hd⟩ := h3.get hv
          have hx0 := isNilSV_den hnil hd
          subst hx0
          have hb2 : hget (st.heap ++ [some ⟨.rows q.sh true [], q.ty, false⟩]) b = some ⟨.cells cs, ty, false⟩ := by
            rw [hget_snoc, if_neg (by omega)]; exact hb
          refine ⟨named ρ st.heap.length (.emp none), g.names, hn, hs.defers, hs.size, fun t s ht => ?_, hadd.turn (b' := ⟨.cells (cs.set q.at_ (.own st.heap.length)), ty, false⟩) hb2 rfl rfl (g.names _ _ hm) (Ext.refl _ _) (fun _ _ => rfl) ?_⟩
          · obtain ⟨x, hx, ho⟩ := hs.slot t s ht
            exact ⟨x, hx, Slot.ok_mono g ho⟩
          · simp only [BlkOK]
            exact ⟨gg, vs, h1, h2, (h3.mono g).put hx (own_emp (named_at ..))⟩
        · exact same
      · exact same
    · exact same
theorem ownAll_sat : ∀ (l : List Place) {ρ : Names} {st : St}, Sat ρ Φ st a w → ∃ ρ2, (∀ k m, ρ k = some m → ρ2 k = some m) ∧ (∀ q, Named ρ2 q → Named ρ q) ∧ Sat ρ2 Φ (ownAll l st) a w
  | [], ρ, st, hs => ⟨ρ, fun _ _ h => h, fun _ h => h, hs⟩
  | q :: r, ρ, st, hs => by
    obtain ⟨ρ1, h1, h2, h3⟩ := ownify_sat q hs
    obtain ⟨ρ2, k1, k2, k3⟩ := ownAll_sat r h3
    exact ⟨ρ2, fun k m h => k1 k m (h1 k m h), fun k h => h2 k (k2 k h), k3⟩
end

/-! ### 5. A loop whose round is known -/
/-- How a loop's states are told anew. -/
structure LP where
  base : Nat
  mv : List Nat := []
  mask : Nat
  maskX : Nat
  nm : Nat := 0
  nb : List Nat := []
  kl : List Nat := []
  klX : List Nat := []
  ow : List Place := []
/-- A round, its end told anew. -/
def roundC (run : St → Tree (Ex × St)) (p : LP) (st : St) : Tree (Ex × St) :=
  (run st).bind fun x => match x.1 with
    | .normal => (orBad "a round's end" (clean p.base p.mv p.mask p.nm p.nb p.kl x.2)).bind fun s => .ret (.normal, s)
    | e => (orBad "a loop's end" (clean p.base p.mv p.maskX p.nm p.nb p.klX x.2)).bind fun s => .ret (e, s)
/-- Rounds. -/
def iterC (B : St → Tree (Ex × St)) : Nat → St → Option (Ex × St)
  | 0, _ => none
  | n + 1, st => match (B st).run with
    | some (.normal, st') => iterC B n st'
    | r => r
noncomputable def propB (p : Prop) : Bool := @decide p (Classical.propDecidable p)
theorem propB_iff {p : Prop} : propB p = true ↔ p := by simp [propB]
/-- The state is as told. -/
noncomputable def chkSt (a b : St) : Bool := propB (a = b)
theorem chk_self (a : St) : chkSt a a = true := by simp [chkSt, propB]
theorem chk_iff {a b : St} : chkSt a b = true ↔ a = b := by simp [chkSt, propB]

/-- The loop, by what its rounds come to ('res'). -/
def loopC (p : LP) (res : St → Tree (Ex × St)) (st : St) : Tree (Ex × St) :=
  match Nat.beq st.heap.length p.base with
  | true => (orBad "a loop's begin" (clean p.base p.mv p.mask p.nm p.nb p.kl (ownAll p.ow st))).bind res
  | false => .bad "a loop's begin: how many blocks there are"

theorem loopC_good {P : Program} {body : Code} {run : St → Tree (Ex × St)} (hbody : GoodCode P body run) {p : LP} {res : St → Tree (Ex × St)}
    (hres : ∀ st ex st', (res st).run = some (ex, st') → ∃ n, iterC (roundC run p) n st = some (ex, st')) :
    GoodCode P (.loop body) (loopC p res) := by
  intro ρ Φ w st a ex st' Q hs hrun hQ
  unfold loopC at hrun
  split at hrun
  case h_2 => simp [Tree.run] at hrun
  rename_i hb
  have hbase : st.heap.length ≤ p.base := by simp only [Nat.beq_eq] at hb; omega
  obtain ⟨st0, h1, h2⟩ := Tree.run_bind hrun
  have h1' := orBad_run h1
  obtain ⟨ρo, hown, hnmo, hso⟩ := ownAll_sat p.ow hs
  obtain ⟨ρ0, hlow, hnm, hs0⟩ := clean_sat h1' hso
  obtain ⟨n, hn⟩ := hres st0 ex st' h2
  have g0 : Grow ρ Φ w ρ0 Φ w := ⟨⟨fun k m hk => by rw [hlow k (Nat.lt_of_lt_of_le (hs.rel.dom k m hk) hbase)]; exact hown k m hk, fun _ h => h, Ext.refl _ _⟩, fun _ h => .inl h, fun q hq => .inr (hnmo q (hnm q hq)), fun _ _ _ => rfl⟩
  clear h1 h1' h2 hrun hlow hnm
  have hdom : ∀ k m, ρ k = some m → k < p.base := fun k m hk => Nat.lt_of_lt_of_le (hs.rel.dom k m hk) hbase
  have main : ∀ (n : Nat) (ρ1 : Names) (Φ1 : Nat → Prop) (w1 : World) (st1 : St) (a1 : Act), Grow ρ Φ w ρ1 Φ1 w1 → Sat ρ1 Φ1 st1 a1 w1 → (∀ t, writes (.loop body) t = false → a1.tmps[t]? = a.tmps[t]?) →
      iterC (roundC run p) n st1 = some (ex, st') → Code.rounds P body Q n a1 w1 := by
    intro n
    induction n with
    | zero => intro ρ1 Φ1 w1 st1 a1 _ _ _ h; simp [iterC] at h
    | succ n ih =>
      intro ρ1 Φ1 w1 st1 a1 g1 hs1 hfr h
      simp only [iterC] at h
      rw [rounds_succ]
      -- one round
      cases hB : (roundC run p st1).run with
      | none => rw [hB] at h; simp at h
      | some x =>
        rw [hB] at h
        obtain ⟨ex1, st2⟩ := x
        unfold roundC at hB
        obtain ⟨y, hy, hc⟩ := Tree.run_bind hB
        obtain ⟨exy, sty⟩ := y
        refine hbody ρ1 Φ1 w1 st1 a1 exy sty _ hs1 hy ?_
        intro ρ2 Φ2 a2 w2 g2 hs2 hfr2
        have hfr' : ∀ t, writes (.loop body) t = false → a2.tmps[t]? = a.tmps[t]? := fun t ht => (hfr2 t ht).trans (hfr t ht)
        have fin : ∀ {m : Nat} {kl : List Nat} {s : St}, clean p.base p.mv m p.nm p.nb kl sty = some s → ∃ ρ3, Grow ρ Φ w ρ3 Φ2 w2 ∧ Sat ρ3 Φ2 s a2 w2 := by
          intro m kl s hcl
          obtain ⟨ρ3, hlow, hnm, hs3⟩ := clean_sat hcl hs2
          have g12 := g1.trans g2
          exact ⟨ρ3, ⟨⟨fun k mm hk => by rw [hlow k (hdom k mm hk)]; exact g12.names k mm hk, g12.phi, g12.ext⟩, g12.back, fun q hq => g12.fresh q (hnm q hq), g12.frame⟩, hs3⟩
        cases exy with
        | normal =>
          simp only at hc
          obtain ⟨s, hcl, hret⟩ := Tree.run_bind hc
          simp only [Tree.run, Option.some.injEq, Prod.mk.injEq] at hret
          obtain ⟨rfl, rfl⟩ := hret
          obtain ⟨ρ3, g3, hs3⟩ := fin (orBad_run hcl)
          exact ih ρ3 Φ2 w2 s a2 g3 hs3 hfr' h
        | exit id =>
          simp only at hc
          obtain ⟨s, hcl, hret⟩ := Tree.run_bind hc
          simp only [Tree.run, Option.some.injEq, Prod.mk.injEq] at hret
          obtain ⟨rfl, rfl⟩ := hret
          obtain ⟨ρ3, g3, hs3⟩ := fin (orBad_run hcl)
          simp only [Option.some.injEq, Prod.mk.injEq] at h
          obtain ⟨rfl, rfl⟩ := h
          exact hQ ρ3 Φ2 a2 w2 g3 hs3 hfr'
        | ret =>
          simp only at hc
          obtain ⟨s, hcl, hret⟩ := Tree.run_bind hc
          simp only [Tree.run, Option.some.injEq, Prod.mk.injEq] at hret
          obtain ⟨rfl, rfl⟩ := hret
          obtain ⟨ρ3, g3, hs3⟩ := fin (orBad_run hcl)
          simp only [Option.some.injEq, Prod.mk.injEq] at h
          obtain ⟨rfl, rfl⟩ := h
          exact hQ ρ3 Φ2 a2 w2 g3 hs3 hfr'
  exact wp_loop_rounds n (main n ρ0 Φ w st0 a g0 hs0 (fun _ _ => rfl) hn)
end Go.Sy
