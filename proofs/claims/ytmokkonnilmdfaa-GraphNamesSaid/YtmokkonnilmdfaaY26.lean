/-
  A region that draws its order, whose operations that turn something come one behind the other: what the others read is hidden from them.
  No statement of the seat is proved here. Conditions: none.
-/
import Derived.Test.YtmokkonnilmdfaaY16
set_option linter.unusedSimpArgs false
set_option linter.unusedVariables false
namespace Go.Sy
open Go.RowKit

section
variable {P : Program} {T : Tab} [GoodTab P T] {E : Env} {call : CallE} {ρ ρ' ρ1 : Names} {Φ Φ' : Nat → Prop} {w w' : World} {H H1 : Hp}

mutual
theorem den_all {f : Nat → Bool} (hn : ∀ k, f k = true → ρ' k = ρ k) : ∀ {v : SV} {x : Value}, v.allN f = true → Den ρ Φ w v x → Den ρ' Φ w v x
  | .li .., x, _, h | .si .., x, _, h | .lb _, x, _, h | .sb _, x, _, h | .str _, x, _, h | .val _, x, _, h | .lref .., x, _, h | .lst .., x, _, h | .emp _, x, _, h => by simpa [Den] using h
  | .any, x, _, h => by simp [Den]
  | .ref b _, x, ho, h => by
    have hb : f b = true := by simpa [SV.allN] using ho
    simp only [Den, hn b hb] at h ⊢; exact h
  | .rref b _ _ _, x, ho, h => by
    have hb : f b = true := by simpa [SV.allN] using ho
    simp only [Den, hn b hb] at h ⊢; exact h
  | .sl b _ _ _, x, ho, h => by
    have hb : f b = true := by simpa [SV.allN] using ho
    simp only [Den, hn b hb] at h ⊢; exact h
  | .own b, x, ho, h => by
    have hb : f b = true := by simpa [SV.allN] using ho
    simp only [Den, hn b hb] at h ⊢; exact h
  | .osl b _ _ _, x, ho, h => by
    have hb : f b = true := by simpa [SV.allN] using ho
    simp only [Den, hn b hb] at h ⊢; exact h
  | .cut b _ _ _, x, ho, h => by
    have hb : f b = true := by simpa [SV.allN] using ho
    simp only [Den, hn b hb] at h ⊢; exact h
  | .mp b, x, ho, h => by
    have hb : f b = true := by simpa [SV.allN] using ho
    simp only [Den, hn b hb] at h ⊢; exact h
  | .agg cs, x, ho, h => by
    simp only [SV.allN] at ho
    simp only [Den] at h ⊢
    obtain ⟨vs, h1, h2⟩ := h
    exact ⟨vs, h1, denL_all hn ho h2⟩
  | .tup cs, x, ho, h => by
    simp only [SV.allN] at ho
    simp only [Den] at h ⊢
    obtain ⟨vs, h1, h2⟩ := h
    exact ⟨vs, h1, denL_all hn ho h2⟩
  | .clo fn first caps, x, ho, h => by
    simp only [SV.allN, Bool.and_eq_true] at ho
    simp only [Den] at h ⊢
    obtain ⟨fs, cs, h1, h2, h3⟩ := h
    exact ⟨fs, cs, h1, denL_all hn ho.1 h2, denL_all hn ho.2 h3⟩
theorem denL_all {f : Nat → Bool} (hn : ∀ k, f k = true → ρ' k = ρ k) : ∀ {l : List SV} {vs : List Value}, SV.allNL f l = true → DenL ρ Φ w l vs → DenL ρ' Φ w l vs
  | [], vs, _, h => by simpa [DenL] using h
  | c :: r, vs, ho, h => by
    simp only [SV.allNL, Bool.and_eq_true] at ho
    simp only [DenL] at h ⊢
    obtain ⟨v, rest, h1, h2, h3⟩ := h
    exact ⟨v, rest, h1, den_all hn ho.1 h2, denL_all hn ho.2 h3⟩
end
theorem blk_all {f : Nat → Bool} (hn : ∀ k, f k = true → ρ' k = ρ k) {m : Nm} {b : Blk} (ho : allNO f (some b) = true) (h : BlkOK ρ Φ w m b) : BlkOK ρ' Φ w m b := by
  obtain ⟨con, ty, ro⟩ := b
  cases con with
  | cells cs =>
    simp only [allNO] at ho
    simp only [BlkOK] at h ⊢
    obtain ⟨g, vs, h1, h2, h3⟩ := h
    exact ⟨g, vs, h1, h2, denL_all hn ho h3⟩
  | rows e nl xs => simpa only [BlkOK] using h
  | mapc k v es => simpa only [BlkOK] using h
theorem slot_all {f : Nat → Bool} (hn : ∀ k, f k = true → ρ' k = ρ k) {s : Slot} {v : Value} (ho : s.allN f = true) (h : s.ok ρ Φ w v) : s.ok ρ' Φ w v := by
  cases s with
  | unk => trivial
  | is u => exact den_all hn ho h
  | when c u =>
    simp only [Slot.ok] at h ⊢
    split at h
    · rename_i hc; rw [if_pos hc]; exact den_all hn ho h
    · rename_i hc; rw [if_neg hc]; exact h
theorem allNH_spec {f : Nat → Bool} : ∀ (H : Hp) (i : Nat), allNH f i H = true → ∀ k b, hget H k = some b → f (i + k) = true → allNO f (some b) = true
  | [], i, h, k, b, hk, hf => by simp [hget] at hk
  | x :: r, i, h, k, b, hk, hf => by
    simp only [allNH, Bool.and_eq_true] at h
    rw [hget_iff] at hk
    cases k with
    | zero =>
      simp at hk; subst hk
      have h1 := h.1
      rw [show f i = true from by simpa using hf] at h1
      exact h1
    | succ k => exact allNH_spec r (i + 1) h.2 k b (hget_iff.2 (by simpa using hk)) (by rw [show i + 1 + k = i + (k + 1) by omega]; exact hf)

theorem hideH_length (F : List Nat) : ∀ (H : Hp) (i : Nat), (hideH F i H).length = H.length
  | [], i => rfl
  | b :: r, i => by simp [hideH, hideH_length F r]
theorem hideH_get (F : List Nat) : ∀ (H : Hp) (i k : Nat), hget (hideH F i H) k = if memN F (i + k) = true then none else hget H k
  | [], i, k => by simp [hideH, hget]
  | b :: r, i, k => by
    cases k with
    | zero =>
      simp only [hideH, Nat.add_zero]
      cases hm : memN F i <;> simp [hget]
    | succ k =>
      have ih := hideH_get F r (i + 1) k
      rw [show i + 1 + k = i + (k + 1) by omega] at ih
      simpa [hideH, hget] using ih
theorem showH_length (F : List Nat) : ∀ (H H1 : Hp) (i : Nat), H.length ≤ H1.length → (showH F i H H1).length = H1.length
  | [], H1, i, _ => by simp [showH]
  | b :: r, [], i, h => by simp at h
  | b :: r, c :: s, i, h => by simp [showH, showH_length F r s (i + 1) (by simpa using h)]
theorem showH_get (F : List Nat) : ∀ (H H1 : Hp) (i k : Nat), H.length ≤ H1.length → hget (showH F i H H1) k = if k < H.length then (if memN F (i + k) = false ∧ (hget H k).isSome = true then hget H1 k else hget H k) else hget H1 k
  | [], H1, i, k, _ => by simp [showH]
  | b :: r, [], i, k, h => by simp at h
  | b :: r, c :: s, i, k, h => by
    cases k with
    | zero =>
      cases b with
      | none => simp [showH, showO, hget]
      | some b => cases hm : memN F i <;> simp [showH, showO, hget, hm]
    | succ k =>
      have ih := showH_get F r s (i + 1) k (by simpa using h)
      rw [show i + 1 + k = i + (k + 1) by omega] at ih
      have hc : ∀ (x : Option Blk) (l : Hp), hget (x :: l) (k + 1) = hget l k := fun _ _ => by simp [hget]
      simp only [showH, hc, List.length_cons, Nat.add_lt_add_iff_right]
      exact ih

/-- The names of what can be seen. -/
def hidN (F : List Nat) (H : Hp) (ρ : Names) : Names := fun k => if vis F H k = true then ρ k else none
def shoN (F : List Nat) (H : Hp) (ρ ρ1 : Names) : Names := fun k => if visN F H k = true then ρ1 k else ρ k

theorem vis_spec {F : List Nat} {k : Nat} : vis F H k = true ↔ memN F k = false ∧ ∃ b, hget H k = some b := by
  unfold vis
  cases hm : memN F k with
  | true => simp
  | false =>
    simp only [true_and]
    cases hk : hget H k with
    | none => simp
    | some b => simp
theorem hide_get {F : List Nat} {k : Nat} {b : Blk} (h : hget (hideH F 0 H) k = some b) : vis F H k = true ∧ hget H k = some b := by
  rw [hideH_get, Nat.zero_add] at h
  split at h
  · cases h
  · rename_i hm
    exact ⟨vis_spec.2 ⟨by simpa using hm, b, h⟩, h⟩
theorem hidN_some {F : List Nat} {k : Nat} {m : Nm} (h : hidN F H ρ k = some m) : vis F H k = true ∧ ρ k = some m := by
  unfold hidN at h
  split at h
  · rename_i hv; exact ⟨hv, h⟩
  · cases h
theorem hidN_vis {F : List Nat} {k : Nat} (h : vis F H k = true) : hidN F H ρ k = ρ k := by unfold hidN; rw [if_pos h]

theorem hide_rel {F : List Nat} (hr : Rel ρ H Φ w) (ho : allNH (vis F H) 0 H = true) : Rel (hidN F H ρ) (hideH F 0 H) Φ w := by
  refine ⟨?_, ?_, ?_, ?_, hr.phi, ?_⟩
  · intro k b hk
    obtain ⟨hv, hk⟩ := hide_get hk
    obtain ⟨m, hm, hok⟩ := hr.own k b hk
    exact ⟨m, by rw [hidN_vis hv]; exact hm, blk_all (fun j hj => hidN_vis hj) (allNH_spec H 0 ho k b hk (by simpa using hv)) hok⟩
  · intro k b m g hk hm
    exact hr.apart k b m g (hide_get hk).2 (hidN_some hm).2
  · intro k b m g hk hm
    exact hr.kept k b m g (hide_get hk).2 (hidN_some hm).2
  · intro k k' b b' m m' g hk hk' h1 h2 hm hm'
    exact hr.inj k k' b b' m m' g (hide_get hk).2 (hide_get hk').2 h1 h2 (hidN_some hm).2 (hidN_some hm').2
  · intro k m hm
    rw [hideH_length]; exact hr.dom k m (hidN_some hm).2

theorem not_hidden {F : List Nat} (hr : Rel ρ H Φ w) {k : Nat} {b : Blk} {m : Nm} {q : Nat} (hk : hget H k = some b) (hv : vis F H k = false) (hro : b.ro = false) (hm : ρ k = some m) (hq : m.block = some q) : ¬ Named (hidN F H ρ) q := by
  rintro ⟨j, m', hj, hq'⟩
  obtain ⟨hvj, hj⟩ := hidN_some hj
  obtain ⟨_, b', hb'⟩ := vis_spec.1 hvj
  cases hro' : b'.ro with
  | true => exact hr.apart k b m q hk hm hq hro (hr.kept j b' m' q hb' hj hq' hro')
  | false =>
    have := hr.inj k j b b' m m' q hk hb' hro hro' hm hj hq hq'
    subst this
    rw [hvj] at hv; cases hv

theorem show_grow {F : List Nat} (hr : Rel ρ H Φ w) (g : Grow (hidN F H ρ) Φ w ρ1 Φ' w') : Grow ρ Φ w (shoN F H ρ ρ1) Φ' w' := by
  have up : ∀ q, Named (hidN F H ρ) q → Named ρ q := fun q ⟨k, m, hk, hm⟩ => ⟨k, m, (hidN_some hk).2, hm⟩
  refine ⟨⟨fun k m hk => ?_, g.phi, g.ext⟩, fun q hq => (g.back q hq).imp id (fun h => h.imp id (up q)), ?_, fun k hk hn => g.frame k hk (fun h => hn (up k h))⟩
  · unfold shoN
    split
    · rename_i hv
      simp only [visN, Bool.or_eq_true, Nat.ble_eq] at hv
      rcases hv with hv | hv
      · exact g.names k m (by rw [hidN_vis hv]; exact hk)
      · have := hr.dom k m hk; omega
    · exact hk
  · rintro q ⟨k, m, hk, hm⟩
    unfold shoN at hk
    split at hk
    · exact (g.fresh q ⟨k, m, hk, hm⟩).imp id (up q)
    · exact .inr ⟨k, m, hk, hm⟩

theorem show_rel {F : List Nat} (hr : Rel ρ H Φ w) (hr1 : Rel ρ1 H1 Φ' w') (g : Grow (hidN F H ρ) Φ w ρ1 Φ' w') (hl : H.length ≤ H1.length) (ho : allNH (visN F H) 0 H1 = true) : Rel (shoN F H ρ ρ1) (showH F 0 H H1) Φ' w' := by
  have gb := show_grow hr g
  have hv1 : ∀ k, visN F H k = true → shoN F H ρ ρ1 k = ρ1 k := fun k hk => by unfold shoN; rw [if_pos hk]
  have one : ∀ k b, hget (showH F 0 H H1) k = some b → (visN F H k = true ∧ hget H1 k = some b) ∨ (visN F H k = false ∧ vis F H k = false ∧ hget H k = some b) := by
    intro k b hk
    rw [showH_get F H H1 0 k hl, Nat.zero_add] at hk
    split at hk
    · rename_i hlt
      split at hk
      · rename_i hc
        obtain ⟨b', hb'⟩ := Option.isSome_iff_exists.1 hc.2
        exact .inl ⟨by simp [visN, vis_spec.2 ⟨hc.1, b', hb'⟩], hk⟩
      · rename_i hc
        have hnv : vis F H k = false := by
          cases hv : vis F H k with
          | false => rfl
          | true =>
            obtain ⟨h1, b', h2⟩ := vis_spec.1 hv
            exact absurd ⟨h1, by rw [h2]; rfl⟩ hc
        have hnl : Nat.ble H.length k = false := by
          cases hb : Nat.ble H.length k with
          | false => rfl
          | true => simp only [Nat.ble_eq] at hb; omega
        exact .inr ⟨by simp [visN, hnv, hnl], hnv, hk⟩
    · rename_i hlt
      exact .inl ⟨by simp only [visN, Bool.or_eq_true, Nat.ble_eq]; exact .inr (by omega), hk⟩
  have new : ∀ k b, visN F H k = true → hget H1 k = some b → ∃ m, ρ1 k = some m ∧ BlkOK (shoN F H ρ ρ1) Φ' w' m b := by
    intro k b hv hk
    obtain ⟨m, hm, hok⟩ := hr1.own k b hk
    exact ⟨m, hm, blk_all hv1 (allNH_spec H1 0 ho k b hk (by simpa using hv)) hok⟩
  have old : ∀ k, visN F H k = false → shoN F H ρ ρ1 k = ρ k := fun k hk => by unfold shoN; rw [if_neg (by simp [hk])]
  have mis : ∀ k b m q, hget H k = some b → vis F H k = false → b.ro = false → ρ k = some m → m.block = some q → ∀ j m', ρ1 j = some m' → m'.block ≠ some q := by
    intro k b m q hk hks hro hm hq j m' hj hq'
    rcases g.fresh q ⟨j, m', hj, hq'⟩ with h1 | h1
    · have := hr.lt hk hm hq; omega
    · exact not_hidden hr hk hks hro hm hq h1
  refine ⟨?_, ?_, ?_, ?_, hr1.phi, ?_⟩
  · intro k b hk
    rcases one k b hk with ⟨hv, hk⟩ | ⟨hv, hvv, hk⟩
    · obtain ⟨m, hm, hok⟩ := new k b hv hk
      exact ⟨m, by rw [hv1 k hv]; exact hm, hok⟩
    · obtain ⟨m, hm, hok⟩ := hr.own k b hk
      refine ⟨m, by rw [old k hv]; exact hm, hok.mono gb (fun q hq => ?_)⟩
      cases hro : b.ro with
      | true => exact g.ext.block q (hr.kept k b m q hk hm hq hro)
      | false => exact g.frame q (hr.lt hk hm hq) (not_hidden hr hk hvv hro hm hq)
  · intro k b m q hk hm hq hro
    rcases one k b hk with ⟨hv, hk⟩ | ⟨hv, hvv, hk⟩
    · rw [hv1 k hv] at hm
      exact hr1.apart k b m q hk hm hq hro
    · rw [old k hv] at hm
      intro hp
      rcases g.back q hp with h4 | h4 | h4
      · exact hr.apart k b m q hk hm hq hro h4
      · have := hr.lt hk hm hq; omega
      · exact not_hidden hr hk hvv hro hm hq h4
  · intro k b m q hk hm hq hro
    rcases one k b hk with ⟨hv, hk⟩ | ⟨hv, hvv, hk⟩
    · rw [hv1 k hv] at hm
      exact hr1.kept k b m q hk hm hq hro
    · rw [old k hv] at hm
      exact g.phi q (hr.kept k b m q hk hm hq hro)
  · intro k k' b b' m m' q hk hk' hro hro' hm hm' hq hq'
    rcases one k b hk with ⟨hv, hk⟩ | ⟨hv, hvv, hk⟩ <;> rcases one k' b' hk' with ⟨hv', hk'⟩ | ⟨hv', hvv', hk'⟩
    · rw [hv1 k hv] at hm; rw [hv1 k' hv'] at hm'
      exact hr1.inj k k' b b' m m' q hk hk' hro hro' hm hm' hq hq'
    · rw [hv1 k hv] at hm; rw [old k' hv'] at hm'
      exact (mis k' b' m' q hk' hvv' hro' hm' hq' k m hm hq).elim
    · rw [old k hv] at hm; rw [hv1 k' hv'] at hm'
      exact (mis k b m q hk hvv hro hm hq k' m' hm' hq').elim
    · rw [old k hv] at hm; rw [old k' hv'] at hm'
      exact hr.inj k k' b b' m m' q hk hk' hro hro' hm hm' hq hq'
  · intro k m hm
    rw [showH_length F H H1 0 hl]
    unfold shoN at hm
    split at hm
    · exact hr1.dom k m hm
    · have := hr.dom k m hm; omega
/-- What is hidden stays. -/
theorem show_hidden {F : List Nat} (hl : H.length ≤ H1.length) {k : Nat} {b : Blk} (hm : memN F k = true) (hk : hget H k = some b) : hget (showH F 0 H H1) k = some b := by
  rw [showH_get F H H1 0 k hl, Nat.zero_add, if_pos (hget_lt hk), if_neg (by simp [hm])]; exact hk

/-! ### Reading -/
theorem onlyH_length (H : Hp) : ∀ (R : List Nat) (A : Hp), (onlyH H R A).length = A.length
  | [], A => rfl
  | b :: r, A => by simp [onlyH, onlyH_length H r]
theorem onlyH_get : ∀ (R : List Nat) (A : Hp) (k : Nat) (b : Blk), hget (onlyH H R A) k = some b → hget A k = some b ∨ (memN R k = true ∧ hget H k = some b)
  | [], A, k, b, h => .inl h
  | x :: r, A, k, b, h => by
    simp only [onlyH] at h
    rcases onlyH_get r _ k b h with h1 | ⟨h1, h2⟩
    · rcases Nat.lt_or_ge x A.length with hlt | hge
      · rw [hget_set hlt] at h1
        split at h1
        · rename_i he; subst he; exact .inr ⟨by simp [memN], h1⟩
        · exact .inl h1
      · rw [List.set_eq_of_length_le hge] at h1; exact .inl h1
    · refine .inr ⟨?_, h2⟩
      simp only [memN, List.any_cons, Bool.or_eq_true] at h1 ⊢
      exact .inr h1
theorem rdH_get {rd : Option (List Nat)} {k : Nat} {b : Blk} (h : hget (rdH H rd) k = some b) : hget H k = some b ∧ ∀ R, rd = some R → memN R k = true := by
  cases rd with
  | none => exact ⟨h, fun R hR => by cases hR⟩
  | some R =>
    simp only [rdH] at h
    rcases onlyH_get R _ k b h with h1 | ⟨h1, h2⟩
    · rw [hget_iff, List.getElem?_map] at h1
      cases hk : H[k]? <;> simp [hk] at h1
    · exact ⟨h2, fun R' hR => by simp only [Option.some.injEq] at hR; subst hR; exact h1⟩

theorem onlyT_length (tm : Tm) : ∀ (L : List Tmp) (t : Tm), (onlyT tm L t).length = t.length
  | [], t => rfl
  | i :: r, t => by simp [onlyT, onlyT_length tm r, Tm.length_set]
theorem onlyT_get (tm : Tm) : ∀ (L : List Tmp) (t : Tm) (j : Nat) (s : Slot), t.length = tm.length → (onlyT tm L t)[j]? = some s → t[j]? = some s ∨ (j ∈ L ∧ tm[j]? = some s)
  | [], t, j, s, hl, h => .inl h
  | i :: r, t, j, s, hl, h => by
    simp only [onlyT] at h
    rcases onlyT_get tm r _ j s (by rw [Tm.length_set]; exact hl) h with h1 | ⟨h1, h2⟩
    · rw [Tm.getElem?_set] at h1
      split at h1
      · rename_i he
        subst he
        split at h1
        · rename_i hlt
          simp only [Option.some.injEq] at h1
          refine .inr ⟨by simp, ?_⟩
          show Tm.look tm i = some s
          rw [Tm.look_eq]
          have hb : Nat.blt i tm.length = true := nlt.2 (hl ▸ hlt)
          rw [hb, h1]
        · cases h1
      · exact .inl h1
    · exact .inr ⟨List.mem_cons_of_mem _ h1, h2⟩
theorem onlyT_zero (tm : Tm) {j : Nat} {s : Slot} {L : List Tmp} (h : (onlyT tm L ⟨tm.length, .nil⟩)[j]? = some s) : s = .unk ∨ (j ∈ L ∧ tm[j]? = some s) := by
  rcases onlyT_get tm L ⟨tm.length, .nil⟩ j s rfl h with h1 | h1
  · have h2 : Tm.look ⟨tm.length, .nil⟩ j = some s := h1
    rw [Tm.look_eq] at h2
    split at h2
    · simp only [Trie.get, Option.some.injEq] at h2; exact .inl h2.symm
    · cases h2
  · exact .inr h1
end
end Go.Sy
