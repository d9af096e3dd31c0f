/-
  Memory that changes: blocks made, turned, let go, kept from turning; 'freeze'.
  No statement of the seat is proved here. Conditions: none.
-/
import Derived.Test.YtmokkonnilmdfaaY7
set_option linter.unusedSimpArgs false
set_option linter.unusedVariables false
namespace Go.Sy
open Go.RowKit

section
variable {P : Program} {T : Tab} [GoodTab P T] {ρ ρ' : Names} {H : Hp} {Φ Φ' : Nat → Prop} {w w' : World}

theorem BlkOK.mono (g : Gro ρ Φ w ρ' Φ' w') {m : Nm} {b : Blk} (hb : ∀ q, m.block = some q → w'.heap[q]? = w.heap[q]?) (h : BlkOK ρ Φ w m b) : BlkOK ρ' Φ' w' m b := by
  obtain ⟨con, ty, ro⟩ := b
  cases con with
  | cells cs =>
    simp only [BlkOK] at h ⊢
    obtain ⟨q, vs, rfl, h1, h2⟩ := h
    exact ⟨q, vs, rfl, (hb q rfl).trans h1, h2.mono g⟩
  | rows e nl xs =>
    simp only [BlkOK] at h ⊢
    rcases h with h | ⟨q, o, c, cur, rfl, h1, h2, h3, h4, h5, h6⟩
    · exact .inl h
    · exact .inr ⟨q, o, c, cur, rfl, h1, h2, h3, (hb q rfl).trans h4, h5, h6.mono (fun d v hd => DenD.mono g.ext g.phi hd)⟩
  | mapc k v es =>
    simp only [BlkOK] at h ⊢
    obtain ⟨q, ents, clock, rfl, h1, h2⟩ := h
    exact ⟨q, ents, clock, rfl, (hb q rfl).trans h1, h2.mono (fun s d v hd => DenD.mono g.ext g.phi hd)⟩

theorem BlkOK.lt {m : Nm} {b : Blk} (h : BlkOK ρ Φ w m b) {q : Nat} (hq : m.block = some q) : q < w.heap.size := by
  obtain ⟨con, ty, ro⟩ := b
  cases con with
  | cells cs =>
    simp only [BlkOK] at h
    obtain ⟨q', vs, rfl, h1, h2⟩ := h
    simp only [Nm.block, Option.some.injEq] at hq; subst hq
    exact (Array.getElem?_eq_some_iff.1 h1).1
  | rows e nl xs =>
    simp only [BlkOK] at h
    rcases h with ⟨_, rfl, _⟩ | ⟨q', o, c, cur, rfl, h1, h2, h3, h4, h5, h6⟩
    · cases hq
    · simp only [Nm.block, Option.some.injEq] at hq; subst hq
      exact (Array.getElem?_eq_some_iff.1 h4).1
  | mapc k v es =>
    simp only [BlkOK] at h
    obtain ⟨q', ents, clock, rfl, h1, h2⟩ := h
    simp only [Nm.block, Option.some.injEq] at hq; subst hq
    exact (Array.getElem?_eq_some_iff.1 h1).1

theorem Rel.lt (h : Rel ρ H Φ w) {k : Nat} {b : Blk} {m : Nm} {q : Nat} (hk : hget H k = some b) (hm : ρ k = some m) (hq : m.block = some q) : q < w.heap.size := by
  obtain ⟨m', hm', hok⟩ := h.own k b hk
  rw [hm] at hm'; simp only [Option.some.injEq] at hm'; subst hm'
  exact hok.lt hq

theorem Rel.world (h : Rel ρ H Φ w) (he : Ext Φ w w') (hb : ∀ k b m q, hget H k = some b → ρ k = some m → m.block = some q → w'.heap[q]? = w.heap[q]?) : Rel ρ H Φ w' :=
  ⟨fun k b hk => let ⟨m, hm, hok⟩ := h.own k b hk; ⟨m, hm, hok.mono (Gro.world he) (fun q hq => hb k b m q hk hm hq)⟩, h.apart, h.kept, h.inj, fun k hk => Nat.lt_of_lt_of_le (h.phi k hk) he.size, h.dom⟩

theorem Rel.below (h : Rel ρ H Φ w) (hb : Below w.heap.size w w') : Rel ρ H Φ w' :=
  h.world (Ext.of_below h.phi hb) (fun k b m q hk hm hq => hb.block q (h.lt hk hm hq))

theorem Rel.drew (h : Rel ρ H Φ w) : Rel ρ H Φ { w with drawn := w.drawn + 1 } := h.world (Ext.refl _ _).drew (fun _ _ _ _ _ _ _ => rfl)

/-- Fewer blocks. -/
theorem Rel.sub {H' : Hp} (h : Rel ρ H Φ w) (hs : ∀ k b, hget H' k = some b → hget H k = some b) (hl : H.length ≤ H'.length) : Rel ρ H' Φ w :=
  ⟨fun k b hk => h.own k b (hs k b hk), fun k b m g hk => h.apart k b m g (hs k b hk), fun k b m g hk => h.kept k b m g (hs k b hk),
    fun k k' b b' m m' g hk hk' => h.inj k k' b b' m m' g (hs k b hk) (hs k' b' hk'), h.phi, fun k m hk => Nat.lt_of_lt_of_le (h.dom k m hk) hl⟩

theorem Rel.kill (h : Rel ρ H Φ w) (k : Nat) : Rel ρ (H.set k none) Φ w := by
  refine h.sub (fun j b hj => ?_) (by simp)
  rcases Nat.lt_or_ge k H.length with hlt | hge
  · rw [hget_set hlt] at hj
    split at hj
    · cases hj
    · exact hj
  · rwa [List.set_eq_of_length_le hge] at hj

/-- What is turned no more has names. -/
def New (ρ : Names) (Φ Φ' : Nat → Prop) : Prop := ∀ q, Φ' q → Φ q ∨ ∃ k m, ρ k = some m ∧ m.block = some q
theorem New.refl (ρ : Names) (Φ : Nat → Prop) : New ρ Φ Φ := fun _ h => .inl h
theorem New.trans {Φ'' : Nat → Prop} (h : New ρ Φ Φ') (h' : New ρ Φ' Φ'') : New ρ Φ Φ'' := fun q hq => (h' q hq).elim (h q) .inr

/-- A block that is turned no more. -/
theorem Rel.ro (h : Rel ρ H Φ w) {k : Nat} {b : Blk} (hk : hget H k = some b) :
    ∃ Φ' : Nat → Prop, Rel ρ (H.set k (some { b with ro := true })) Φ' w ∧ Grow ρ Φ w ρ Φ' w ∧ (∀ m q, ρ k = some m → m.block = some q → Φ' q) ∧ New ρ Φ Φ' := by
  obtain ⟨m, hm, hok⟩ := h.own k b hk
  have hlt := hget_lt hk
  refine ⟨fun q => Φ q ∨ m.block = some q, ?_, Grow.more (fun q hq => .inl hq) (fun q hq => hq.imp id fun e => ⟨k, m, hm, e⟩), fun m' q hm' hq => by rw [hm] at hm'; simp only [Option.some.injEq] at hm'; subst hm'; exact .inr hq, fun q hq => hq.imp id (fun e => ⟨k, m, hm, e⟩)⟩
  have grow : Gro ρ Φ w ρ (fun q => Φ q ∨ m.block = some q) w := Gro.more (fun q hq => .inl hq)
  have back : ∀ j c, hget (H.set k (some { b with ro := true })) j = some c → (j = k ∧ c = { b with ro := true }) ∨ (j ≠ k ∧ hget H j = some c) := by
    intro j c hj
    rw [hget_set hlt] at hj
    split at hj
    · rename_i e; simp only [Option.some.injEq] at hj; exact .inl ⟨e.symm, hj.symm⟩
    · rename_i e; exact .inr ⟨fun x => e x.symm, hj⟩
  refine ⟨?_, ?_, ?_, ?_, ?_, ?_⟩
  · intro j c hj
    rcases back j c hj with ⟨rfl, rfl⟩ | ⟨_, hj'⟩
    · exact ⟨m, hm, by have := hok.mono grow (fun q _ => rfl); exact this⟩
    · obtain ⟨m', hm', hok'⟩ := h.own j c hj'
      exact ⟨m', hm', hok'.mono grow (fun q _ => rfl)⟩
  · intro j c m' g hj hm' hg hro
    rcases back j c hj with ⟨rfl, rfl⟩ | ⟨hne, hj'⟩
    · cases hro
    · rintro (hp | hp)
      · exact h.apart j c m' g hj' hm' hg hro hp
      · cases hb : b.ro with
        | true => exact h.apart j c m' g hj' hm' hg hro (h.kept k b m g hk hm hp hb)
        | false => exact hne (h.inj j k c b m' m g hj' hk hro hb hm' hm hg hp)
  · intro j c m' g hj hm' hg hro
    rcases back j c hj with ⟨rfl, rfl⟩ | ⟨_, hj'⟩
    · rw [hm] at hm'; simp only [Option.some.injEq] at hm'; subst hm'; exact .inr hg
    · exact .inl (h.kept j c m' g hj' hm' hg hro)
  · intro j j' c c' m1 m2 g hj hj' hr hr' h1 h2 g1 g2
    rcases back j c hj with ⟨rfl, rfl⟩ | ⟨_, hj2⟩
    · cases hr
    · rcases back j' c' hj' with ⟨rfl, rfl⟩ | ⟨_, hj3⟩
      · cases hr'
      · exact h.inj j j' c c' m1 m2 g hj2 hj3 hr hr' h1 h2 g1 g2
  · intro q hq
    rcases hq with hq | hq
    · exact h.phi q hq
    · exact hok.lt hq
  · intro j m' hm'
    simpa using h.dom j m' hm'

/-- A block with another content. -/
theorem Rel.turn (h : Rel ρ H Φ w) {k : Nat} {b b' : Blk} {m : Nm} (hk : hget H k = some b) (hro : b.ro = false) (hro' : b'.ro = false) (hm : ρ k = some m) (he : Ext Φ w w') (hother : ∀ q, m.block ≠ some q → w'.heap[q]? = w.heap[q]?)
    (hok : BlkOK ρ Φ w' m b') : Rel ρ (H.set k (some b')) Φ w' := by
  have hlt := hget_lt hk
  have back : ∀ j c, hget (H.set k (some b')) j = some c → (j = k ∧ c = b') ∨ (j ≠ k ∧ hget H j = some c) := by
    intro j c hj
    rw [hget_set hlt] at hj
    split at hj
    · rename_i e; simp only [Option.some.injEq] at hj; exact .inl ⟨e.symm, hj.symm⟩
    · rename_i e; exact .inr ⟨fun x => e x.symm, hj⟩
  refine ⟨?_, ?_, ?_, ?_, ?_, ?_⟩
  · intro j c hj
    rcases back j c hj with ⟨rfl, rfl⟩ | ⟨hne, hj'⟩
    · exact ⟨m, hm, hok⟩
    · obtain ⟨m', hm', hok'⟩ := h.own j c hj'
      refine ⟨m', hm', hok'.mono (Gro.world he) (fun q hq => hother q (fun e => ?_))⟩
      cases hc : c.ro with
      | true => exact h.apart k b m q hk hm e hro (h.kept j c m' q hj' hm' hq hc)
      | false => exact hne (h.inj j k c b m' m q hj' hk hc hro hm' hm hq e)
  · intro j c m' g hj hm' hg hr
    rcases back j c hj with ⟨rfl, rfl⟩ | ⟨_, hj'⟩
    · rw [hm] at hm'; simp only [Option.some.injEq] at hm'; subst hm'
      exact h.apart j b m g hk hm hg hro
    · exact h.apart j c m' g hj' hm' hg hr
  · intro j c m' g hj hm' hg hr
    rcases back j c hj with ⟨rfl, rfl⟩ | ⟨_, hj'⟩
    · rw [hro'] at hr; cases hr
    · exact h.kept j c m' g hj' hm' hg hr
  · intro j j' c c' m1 m2 g hj hj' hr hr' h1 h2 g1 g2
    have one : ∀ i d, hget (H.set k (some b')) i = some d → d.ro = false → ∃ d', hget H i = some d' ∧ d'.ro = false := by
      intro i d hi hd
      rcases back i d hi with ⟨rfl, rfl⟩ | ⟨_, hi'⟩
      · exact ⟨b, hk, hro⟩
      · exact ⟨d, hi', hd⟩
    obtain ⟨d1, e1, r1⟩ := one j c hj hr
    obtain ⟨d2, e2, r2⟩ := one j' c' hj' hr'
    exact h.inj j j' d1 d2 m1 m2 g e1 e2 r1 r2 h1 h2 g1 g2
  · exact fun q hq => Nat.lt_of_lt_of_le (h.phi q hq) he.size
  · intro j m' hm'
    simpa using h.dom j m' hm'

def named (ρ : Names) (n : Nat) (m : Nm) : Names := fun k => if k = n then some m else ρ k
theorem named_at (ρ : Names) (n : Nat) (m : Nm) : named ρ n m n = some m := by simp [named]
theorem Rel.gro_named (h : Rel ρ H Φ w) (m : Nm) (he : Ext Φ w w') : Gro ρ Φ w (named ρ H.length m) Φ w' := by
  refine ⟨fun k x hk => ?_, fun _ h => h, he⟩
  have := h.dom k x hk
  unfold named; rw [if_neg (by omega)]; exact hk
theorem Rel.gro_at (h : Rel ρ H Φ w) (m : Nm) (w' : World) : Gro ρ Φ w' (named ρ H.length m) Φ w' := ⟨(h.gro_named m (Ext.refl _ w)).names, fun _ h => h, Ext.refl _ _⟩
theorem Named.of_named {n : Nat} {m : Nm} {q : Nat} (h : Named (named ρ n m) q) : m.block = some q ∨ Named ρ q := by
  obtain ⟨k, x, hk, hx⟩ := h
  unfold named at hk
  split at hk
  · simp only [Option.some.injEq] at hk; subst hk; exact .inl hx
  · exact .inr ⟨k, x, hk, hx⟩
theorem Rel.grow_named (h : Rel ρ H Φ w) (m : Nm) (he : Ext Φ w w') (hm : ∀ q, m.block = some q → w.heap.size ≤ q ∨ Named ρ q) (hf : ∀ k, k < w.heap.size → ¬ Named ρ k → w'.heap[k]? = w.heap[k]?) : Grow ρ Φ w (named ρ H.length m) Φ w' :=
  ⟨h.gro_named m he, fun _ h => .inl h, fun k hk => (Named.of_named hk).elim (hm k) .inr, hf⟩

/-- One name more. -/
theorem Rel.add (h : Rel ρ H Φ w) {m : Nm} {b : Blk} (hro : b.ro = false) (he : Ext Φ w w') (hold : ∀ k b m q, hget H k = some b → ρ k = some m → m.block = some q → w'.heap[q]? = w.heap[q]?)
    (hfree : ∀ q, m.block = some q → ¬ Φ q ∧ ∀ k c m', hget H k = some c → c.ro = false → ρ k = some m' → m'.block ≠ some q) (hok : BlkOK (named ρ H.length m) Φ w' m b) : Rel (named ρ H.length m) (H ++ [some b]) Φ w' := by
  have grow := h.gro_named m he
  have back : ∀ j c, hget (H ++ [some b]) j = some c → (j = H.length ∧ c = b) ∨ (j < H.length ∧ hget H j = some c) := by
    intro j c hj
    rw [hget_snoc] at hj
    split at hj
    · rename_i e; simp only [Option.some.injEq] at hj; exact .inl ⟨e, hj.symm⟩
    · exact .inr ⟨hget_lt hj, hj⟩
  have nm : ∀ j, j < H.length → named ρ H.length m j = ρ j := fun j hj => by unfold named; rw [if_neg (by omega)]
  refine ⟨?_, ?_, ?_, ?_, ?_, ?_⟩
  · intro j c hj
    rcases back j c hj with ⟨rfl, rfl⟩ | ⟨hlt, hj'⟩
    · exact ⟨m, named_at .., hok⟩
    · obtain ⟨m', hm', hok'⟩ := h.own j c hj'
      exact ⟨m', by rw [nm j hlt]; exact hm', hok'.mono grow (fun q hq => hold j c m' q hj' hm' hq)⟩
  · intro j c m' g hj hm' hg hr
    rcases back j c hj with ⟨rfl, rfl⟩ | ⟨hlt, hj'⟩
    · rw [named_at] at hm'; simp only [Option.some.injEq] at hm'; subst hm'
      exact (hfree g hg).1
    · rw [nm j hlt] at hm'; exact h.apart j c m' g hj' hm' hg hr
  · intro j c m' g hj hm' hg hr
    rcases back j c hj with ⟨rfl, rfl⟩ | ⟨hlt, hj'⟩
    · rw [hro] at hr; cases hr
    · rw [nm j hlt] at hm'; exact h.kept j c m' g hj' hm' hg hr
  · intro j j' c c' m1 m2 g hj hj' hr hr' h1 h2 g1 g2
    rcases back j c hj with ⟨rfl, rfl⟩ | ⟨hlt, hj2⟩ <;> rcases back j' c' hj' with ⟨rfl, rfl⟩ | ⟨hlt', hj3⟩
    · rfl
    · rw [named_at] at h1; simp only [Option.some.injEq] at h1; subst h1
      rw [nm j' hlt'] at h2
      exact ((hfree g g1).2 j' c' m2 hj3 hr' h2 g2).elim
    · rw [named_at] at h2; simp only [Option.some.injEq] at h2; subst h2
      rw [nm j hlt] at h1
      exact ((hfree g g2).2 j c m1 hj2 hr h1 g1).elim
    · rw [nm j hlt] at h1; rw [nm j' hlt'] at h2
      exact h.inj j j' c c' m1 m2 g hj2 hj3 hr hr' h1 h2 g1 g2
  · exact fun q hq => Nat.lt_of_lt_of_le (h.phi q hq) he.size
  · intro j m' hm'
    unfold named at hm'
    split at hm'
    · rename_i e; subst e; simp
    · have := h.dom j m' hm'; simp; omega

/-- A new block of the world. -/
theorem Rel.alloc (h : Rel ρ H Φ w) {m : Nm} {b : Blk} {o : Obj} (hro : b.ro = false) (hm : ∀ q, m.block = some q → q = w.heap.size) (hok : BlkOK (named ρ H.length m) Φ (w.alloc o) m b) :
    Rel (named ρ H.length m) (H ++ [some b]) Φ (w.alloc o) ∧ Grow ρ Φ w (named ρ H.length m) Φ (w.alloc o) := by
  have he : Ext Φ w (w.alloc o) := ⟨rfl, rfl, rfl, by simp, fun k hk => Below.heap_alloc _ _ _ (h.phi k hk)⟩
  refine ⟨h.add hro he (fun k b m q hk hm hq => Below.heap_alloc _ _ _ (h.lt hk hm hq)) (fun q hq => ⟨fun hp => ?_, fun k c m' hk _ hm' e => ?_⟩) hok, h.grow_named m he (fun q hq => .inl (Nat.le_of_eq (hm q hq).symm)) (fun k hk _ => Below.heap_alloc _ _ _ hk)⟩
  · have := h.phi q hp; have := hm q hq; omega
  · have := h.lt hk hm' e; have := hm q hq; omega

/-! ### 'freeze' -/

theorem packS_den {ag : Bool} {sz : Nat} {cs : List SV} {vs : List Value} (h : DenL ρ Φ w cs vs) (hs : 0 < sz) (hl : sz ≤ cs.length) : Den ρ Φ w (packS ag sz cs) (packV ag (vs.take sz)) := by
  cases ag with
  | true => simp only [packS, packV, Den]; exact ⟨_, rfl, h.take sz⟩
  | false =>
    simp only [packS, packV]
    cases cs with
    | nil => simp at hl; omega
    | cons c r =>
      simp only [DenL] at h
      obtain ⟨v, rest, rfl, h1, h2⟩ := h
      obtain ⟨n, rfl⟩ : ∃ n, sz = n + 1 := ⟨sz - 1, by omega⟩
      simpa using h1

theorem rowsWith_run {f : SV → Hp → Option (D × Hp)} {R : (Nat → Prop) → D → Value → Prop} (hR : ∀ Φ Φ' : Nat → Prop, (∀ k, Φ k → Φ' k) → ∀ d v, R Φ d v → R Φ' d v)
    (hf : ∀ v H d H', f v H = some (d, H') → ∀ Φ, Rel ρ H Φ w → ∀ x, Den ρ Φ w v x → ∃ Φ', Rel ρ H' Φ' w ∧ Grow ρ Φ w ρ Φ' w ∧ R Φ' d x ∧ H'.length = H.length ∧ New ρ Φ Φ') {ag : Bool} {sz : Nat} (hs : 0 < sz) :
    ∀ (n : Nat) (cs : List SV) (H : Hp) (ds : List D) (H' : Hp), rowsWith f ag sz n cs H = some (ds, H') → n * sz ≤ cs.length → ∀ Φ, Rel ρ H Φ w → ∀ vs, DenL ρ Φ w cs vs →
      ∃ Φ', Rel ρ H' Φ' w ∧ Grow ρ Φ w ρ Φ' w ∧ RowsP (R Φ') ag sz ds (vs.take (n * sz)) ∧ H'.length = H.length ∧ ds.length = n ∧ New ρ Φ Φ'
  | 0, cs, H, ds, H', h, hl, Φ, hr, vs, hd => by
    simp only [rowsWith, Option.some.injEq, Prod.mk.injEq] at h
    obtain ⟨rfl, rfl⟩ := h
    exact ⟨Φ, hr, Grow.refl .., by simp [RowsP], rfl, rfl, New.refl _ _⟩
  | n + 1, cs, H, ds, H', h, hl, Φ, hr, vs, hd => by
    simp only [rowsWith] at h
    split at h
    · rename_i d H1 h1
      split at h
      · rename_i ds' H2 h2
        simp only [Option.some.injEq, Prod.mk.injEq] at h
        obtain ⟨rfl, rfl⟩ := h
        have hl' : n * sz + sz ≤ cs.length := by rw [← Nat.add_one_mul]; exact hl
        obtain ⟨Φ1, r1, g1, d1, l1, n1⟩ := hf _ _ _ _ h1 Φ hr _ (packS_den hd hs (by omega))
        obtain ⟨Φ2, r2, g2, d2, l2, e2, n2⟩ := rowsWith_run hR hf hs n (cs.drop sz) H1 ds' H2 h2 (by simp; omega) Φ1 r1 (vs.drop sz) ((hd.mono g1).drop sz)
        refine ⟨Φ2, r2, g1.trans g2, ?_, by omega, by simp [e2], n1.trans n2⟩
        refine ⟨vs.take sz, (vs.drop sz).take (n * sz), ?_, ?_, hR _ _ g2.phi _ _ d1, d2⟩
        · rw [Nat.add_one_mul, Nat.add_comm, List.take_add]
        · have := hd.length; simp; omega
      · cases h
    · cases h

mutual
theorem freeze_run : ∀ (sh : Sh) (v : SV) (H : Hp) (d : D) (H' : Hp), freeze sh v H = some (d, H') → ∀ Φ, Rel ρ H Φ w → ∀ x, Den ρ Φ w v x → ∃ Φ', Rel ρ H' Φ' w ∧ Grow ρ Φ w ρ Φ' w ∧ DenD Φ' w sh d x ∧ H'.length = H.length ∧ New ρ Φ Φ'
  | .int k, v, H, d, H', h, Φ, hr, x, hd => by
    simp only [freeze] at h
    split at h
    · rename_i k' n hv
      split at h
      · rename_i hk
        simp only [Option.some.injEq, Prod.mk.injEq] at h
        obtain ⟨rfl, rfl⟩ := h
        have := kbeq_eq hk; subst this
        exact ⟨Φ, hr, Grow.refl .., by simp [DenD, D.int, int?_den hv hd], rfl, New.refl _ _⟩
      · cases h
    · cases h
  | .bool, v, H, d, H', h, Φ, hr, x, hd => by
    simp only [freeze] at h
    split at h
    · rename_i b hv
      simp only [Option.some.injEq, Prod.mk.injEq] at h
      obtain ⟨rfl, rfl⟩ := h
      exact ⟨Φ, hr, Grow.refl .., by simp [DenD, D.bool, bool?_den hv hd], rfl, New.refl _ _⟩
    · cases h
  | .str, v, H, d, H', h, Φ, hr, x, hd => by
    simp only [freeze] at h
    split at h
    · simp only [Option.some.injEq, Prod.mk.injEq] at h
      obtain ⟨rfl, rfl⟩ := h
      simp only [Den] at hd
      exact ⟨Φ, hr, Grow.refl .., by simp [DenD, D.str, hd], rfl, New.refl _ _⟩
    · cases h
  | .agg cs, v, H, d, H', h, Φ, hr, x, hd => by
    simp only [freeze] at h
    split at h
    · rename_i vs
      split at h
      · rename_i ds H1 h1
        simp only [Option.some.injEq, Prod.mk.injEq] at h
        obtain ⟨rfl, rfl⟩ := h
        simp only [Den] at hd
        obtain ⟨xs, rfl, hd⟩ := hd
        obtain ⟨Φ', r1, g1, d1, l1, n1⟩ := freezeL_run cs vs H ds H1 h1 Φ hr xs hd
        exact ⟨Φ', r1, g1, by simp only [DenD]; exact ⟨xs, rfl, d1 (.a ds) 0 (fun i hi => by simp [D.at])⟩, l1, n1⟩
      · cases h
    · cases h
  | .list e, v, H, d, H', h, Φ, hr, x, hd => by
    simp only [freeze] at h
    split at h
    · rename_i e' nl xs
      split at h
      · rename_i he
        have := Sh.beq_eq he; subst this
        simp only [Option.some.injEq, Prod.mk.injEq] at h
        obtain ⟨rfl, rfl⟩ := h
        simp only [Den] at hd
        exact ⟨Φ, hr, Grow.refl .., hd, rfl, New.refl _ _⟩
      · cases h
    · rename_i b
      split at h
      · rename_i e' nl xs ty ro hb
        split at h
        · rename_i he
          have := Sh.beq_eq he; subst this
          simp only [Option.some.injEq, Prod.mk.injEq] at h
          obtain ⟨rfl, rfl⟩ := h
          obtain ⟨Φ', r1, g1, p1, n1⟩ := hr.ro hb
          obtain ⟨m, hm, hok⟩ := hr.own _ _ hb
          refine ⟨Φ', r1, g1, ?_, by simp, n1⟩
          simp only [DenD, D.nl, D.xs]
          simp only [Den] at hd
          simp only [BlkOK] at hok
          rcases hok with ⟨a, rfl, rfl, rfl⟩ | ⟨g, o, c, cur, rfl, rfl, h2, h3, h4, h5, h6⟩
          · rcases hd with ⟨_, _, _, _, q1, _⟩ | ⟨a', q1, rfl⟩
            · rw [hm] at q1; cases q1
            · rw [hm] at q1; simp only [Option.some.injEq, Nm.emp.injEq] at q1; subst q1
              exact ⟨a, 0, rfl, Nat.le_refl _, by decide, by simp, by simp, by simp⟩
          · rcases hd with ⟨_, _, _, _, q1, rfl⟩ | ⟨_, q1, _⟩
            · rw [hm] at q1; simp only [Option.some.injEq, Nm.row.injEq] at q1
              obtain ⟨rfl, rfl, rfl, rfl⟩ := q1
              refine ⟨some ⟨g, o, none⟩, c, rfl, h2, h3, by simp, by simp, ?_⟩
              intro p hp _
              simp only [Option.some.injEq] at hp; subst hp
              exact ⟨rfl, p1 _ g hm rfl, _, h6.mono (fun d v hd => DenD.mono g1.ext g1.phi hd), fun j u hu => own_rows_cell h4 j u hu⟩
            · rw [hm] at q1; cases q1
        · cases h
      · cases h
    · rename_i b off len cap
      split at h
      · rename_i cs ty ro hb
        split at h
        · rename_i hc
          simp only [Bool.and_eq_true, Nat.ble_eq, Bool.not_eq_true'] at hc
          obtain ⟨⟨hle, hnz⟩, hlc, hcc⟩ := hc
          split at h
          · rename_i ds H1 h1
            simp only [Option.some.injEq, Prod.mk.injEq] at h
            obtain ⟨rfl, rfl⟩ := h
            obtain ⟨Φ1, r1, g1, p1, n1⟩ := hr.ro hb
            obtain ⟨m, hm, hok⟩ := hr.own _ _ hb
            simp only [BlkOK] at hok
            obtain ⟨g, vs, rfl, hg, hv⟩ := hok
            have hsz : 0 < e.size := Nat.pos_of_ne_zero (nbf.1 hnz)
            obtain ⟨Φ2, r2, g2, d2, l2, e2, n2⟩ := rowsWith_run (ρ := ρ) (w := w) (R := fun Φ d v => DenD Φ w e d v) (fun Φ Φ' hp d v hd => DenD.mono (Ext.refl _ _) hp hd) (fun v H d H' hh => freeze_run e v H d H' hh) hsz len (cs.drop off) _ ds H1 h1 (by simp; omega) Φ1 r1 (vs.drop off) ((hv.mono g1).drop off)
            refine ⟨Φ2, r2, g1.trans g2, ?_, by simpa using l2, n1.trans n2⟩
            simp only [Den] at hd
            obtain ⟨g', hg', rfl⟩ := hd
            rw [hm] at hg'; simp only [Option.some.injEq, Nm.blk.injEq] at hg'; subst hg'
            simp only [DenD, D.nl, D.xs]
            refine ⟨some ⟨g, off, none⟩, cap, by rw [e2], by omega, ?_, by simp, by simp, ?_⟩
            · exact Nat.le_trans hcc (by decide)
            · intro p hp _
              simp only [Option.some.injEq] at hp; subst hp
              refine ⟨rfl, g2.phi _ (p1 _ g hm rfl), _, d2, ?_⟩
              intro j u hu
              rw [List.getElem?_take] at hu
              split at hu
              · rw [List.getElem?_drop] at hu
                have := cell_of_heap hg _ u hu
                simpa using this
              · cases hu
          · cases h
        · cases h
      · cases h
    · rename_i b sz lo hi
      split at h
      · rename_i e' nl xs ty ro hb
        split at h
        · rename_i he
          simp only [Bool.and_eq_true, Nat.beq_eq] at he
          obtain ⟨he, hsz⟩ := he
          have := Sh.beq_eq he; subst this
          subst hsz
          simp only [Option.some.injEq, Prod.mk.injEq] at h
          obtain ⟨rfl, rfl⟩ := h
          obtain ⟨Φ', r1, g1, p1, n1⟩ := hr.ro hb
          obtain ⟨m, hm, hok⟩ := hr.own _ _ hb
          refine ⟨Φ', r1, g1, ?_, by simp, n1⟩
          simp only [DenD, D.nl, D.xs]
          simp only [Den] at hd
          simp only [BlkOK] at hok
          rcases hok with ⟨a, rfl, rfl, rfl⟩ | ⟨g, o, c, cur, rfl, rfl, h2, h3, h4, h5, h6⟩
          · rcases hd with ⟨_, _, _, _, _, q1, _⟩ | ⟨a', q1, rfl, rfl, rfl⟩
            · rw [hm] at q1; cases q1
            · rw [hm] at q1; simp only [Option.some.injEq, Nm.emp.injEq] at q1; subst q1
              exact ⟨a, 0, rfl, Nat.le_refl _, by decide, by simp, by simp, by simp⟩
          · rcases hd with ⟨_, _, _, _, off, q1, q2, q3, q4, rfl⟩ | ⟨_, q1, _⟩
            · rw [hm] at q1; simp only [Option.some.injEq, Nm.row.injEq] at q1
              obtain ⟨rfl, rfl, rfl, rfl⟩ := q1
              have hl : ((xs.take hi).drop lo).length = hi - lo := by simp; omega
              refine ⟨some ⟨g, off, none⟩, c - lo, by rw [hl], by omega, by omega, by simp, by simp, ?_⟩
              intro p hp hne
              simp only [Option.some.injEq] at hp; subst hp
              have hlo : lo < c := by
                rcases Nat.lt_or_ge lo c with h7 | h7
                · exact h7
                · exact absurd (List.length_eq_zero_iff.1 (by rw [hl]; omega)) hne
              have e1 := q4 hlo
              subst e1
              have hw : ReadP Φ' w (fun d v => DenD Φ' w e d v) e.isAgg e.size xs ⟨g, o, none⟩ := ⟨rfl, p1 _ g hm rfl, _, h6.mono (fun d v hd => DenD.mono g1.ext g1.phi hd), fun j u hu => own_rows_cell h4 j u hu⟩
              have := hw.part lo hi q3
              rwa [addr_add] at this
            · rw [hm] at q1; cases q1
        · cases h
      · cases h
    · rename_i nl
      simp only [Option.some.injEq, Prod.mk.injEq] at h
      obtain ⟨rfl, rfl⟩ := h
      simp only [Den] at hd
      obtain ⟨a, rfl, rfl⟩ := hd
      refine ⟨Φ, hr, Grow.refl .., ?_, rfl, New.refl _ _⟩
      simp only [DenD, D.nl, D.xs]
      exact ⟨a, 0, rfl, Nat.le_refl _, by decide, by simp, by simp, by simp⟩
    · simp only [Option.some.injEq, Prod.mk.injEq] at h
      obtain ⟨rfl, rfl⟩ := h
      simp only [Den] at hd; subst hd
      refine ⟨Φ, hr, Grow.refl .., ?_, rfl, New.refl _ _⟩
      simp only [DenD, D.nl, D.xs]
      exact ⟨none, 0, rfl, Nat.le_refl _, by decide, by simp, by simp, by simp⟩
    · cases h
theorem freezeL_run : ∀ (cs : List Sh) (vs : List SV) (H : Hp) (ds : List D) (H' : Hp), freezeL cs vs H = some (ds, H') → ∀ Φ, Rel ρ H Φ w → ∀ xs, DenL ρ Φ w vs xs →
    ∃ Φ', Rel ρ H' Φ' w ∧ Grow ρ Φ w ρ Φ' w ∧ (∀ (d : D) (j : Nat), (∀ i, i < ds.length → d.at (j + i) = ds.getD i default) → DenDs Φ' w cs d j xs) ∧ H'.length = H.length ∧ New ρ Φ Φ'
  | [], vs, H, ds, H', h, Φ, hr, xs, hd => by
    simp only [freezeL] at h
    split at h
    · simp only [Option.some.injEq, Prod.mk.injEq] at h
      obtain ⟨rfl, rfl⟩ := h
      simp only [DenL] at hd; subst hd
      exact ⟨Φ, hr, Grow.refl .., fun d j _ => by simp [DenDs], rfl, New.refl _ _⟩
    · cases h
  | c :: cs, vs, H, ds, H', h, Φ, hr, xs, hd => by
    simp only [freezeL] at h
    split at h
    · rename_i v vs
      split at h
      · rename_i d H1 h1
        split at h
        · rename_i ds' H2 h2
          simp only [Option.some.injEq, Prod.mk.injEq] at h
          obtain ⟨rfl, rfl⟩ := h
          simp only [DenL] at hd
          obtain ⟨x, xs', rfl, hx, hxs⟩ := hd
          obtain ⟨Φ1, r1, g1, d1, l1, n1⟩ := freeze_run c v H d H1 h1 Φ hr x hx
          obtain ⟨Φ2, r2, g2, d2, l2, n2⟩ := freezeL_run cs vs H1 ds' H2 h2 Φ1 r1 xs' (hxs.mono g1)
          refine ⟨Φ2, r2, g1.trans g2, ?_, by omega, n1.trans n2⟩
          intro dd j hj
          simp only [DenDs]
          refine ⟨x, xs', rfl, ?_, d2 dd (j + 1) (fun i hi => ?_)⟩
          · have := hj 0 (by simp)
            simp at this; rw [this]
            exact DenD.mono g2.ext g2.phi d1
          · have := hj (i + 1) (by simp; omega)
            rw [Nat.add_assoc, Nat.add_comm 1 i, this]; simp
        · cases h
      · cases h
    · cases h
end
end
end Go.Sy
