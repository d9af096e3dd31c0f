/-
  Contracts and what is known ahead ('PC', 'Ct', 'LC', 'envOf').
  No statement of the seat is proved here. Conditions: none.
-/
import Derived.Test.YtmokkonnilmdfaaY19
set_option linter.unusedSimpArgs false
set_option linter.unusedVariables false
namespace Go.Sy
open Go.RowKit

mutual
/-- No list that nobody turns is in it. -/
def SV.bare : SV → Bool
  | .lref .. => false
  | .lst e nl xs => match nl, xs with
    | true, [] => true
    | _, _ => false
  | .agg cs => SV.bareL cs
  | .tup vs => SV.bareL vs
  | .clo _ first caps => SV.bareL first && SV.bareL caps
  | _ => true
def SV.bareL : List SV → Bool
  | [] => true
  | c :: r => SV.bare c && SV.bareL r
end
def bareB : Option Blk → Bool
  | some ⟨.cells cs, _, ro⟩ => !ro && SV.bareL cs
  | some ⟨.rows e _ _, _, ro⟩ => !ro && e.flat
  | some ⟨.mapc k v _, _, ro⟩ => !ro && (k.flat && v.flat)
  | none => true
def bareH : Hp → Bool
  | [] => true
  | b :: r => bareB b && bareH r

section
variable {ρ : Names} {Φ Φ' : Nat → Prop} {w : World}
theorem den_nil_lst {e : Sh} {x : Value} : Den ρ Φ w (.lst e true []) x ↔ x = .slice none 0 0 := by
  simp only [Den, DenD, D.nl, D.xs]
  constructor
  · rintro ⟨a, cap, rfl, _, _, q3, q4, _⟩
    have ha : a = none := q3.1 rfl
    subst ha
    obtain ⟨_, rfl⟩ := q4 rfl
    rfl
  · rintro rfl
    exact ⟨none, 0, rfl, Nat.le_refl _, by decide, by simp, by simp, by simp⟩
mutual
theorem den_bare : ∀ {v : SV} {x : Value}, v.bare = true → Den ρ Φ w v x → Den ρ Φ' w v x
  | .li .., x, _, h | .si .., x, _, h | .lb _, x, _, h | .sb _, x, _, h | .str _, x, _, h | .val _, x, _, h | .ref .., x, _, h | .rref .., x, _, h | .sl .., x, _, h | .own _, x, _, h | .mp _, x, _, h | .osl .., x, _, h | .cut .., x, _, h | .emp _, x, _, h => by simpa [Den] using h
  | .any, x, _, h => by simp [Den]
  | .lref .., x, hb, h => by cases hb
  | .lst e nl xs, x, hb, h => by
    simp only [SV.bare] at hb
    split at hb
    · rw [den_nil_lst] at h ⊢; exact h
    · cases hb
  | .agg cs, x, hb, h => by
    simp only [SV.bare] at hb
    simp only [Den] at h ⊢
    obtain ⟨vs, h1, h2⟩ := h; exact ⟨vs, h1, denL_bare hb h2⟩
  | .tup cs, x, hb, h => by
    simp only [SV.bare] at hb
    simp only [Den] at h ⊢
    obtain ⟨vs, h1, h2⟩ := h; exact ⟨vs, h1, denL_bare hb h2⟩
  | .clo fn first caps, x, hb, h => by
    simp only [SV.bare, Bool.and_eq_true] at hb
    simp only [Den] at h ⊢
    obtain ⟨fs, cs, h1, h2, h3⟩ := h; exact ⟨fs, cs, h1, denL_bare hb.1 h2, denL_bare hb.2 h3⟩
theorem denL_bare : ∀ {l : List SV} {vs : List Value}, SV.bareL l = true → DenL ρ Φ w l vs → DenL ρ Φ' w l vs
  | [], vs, _, h => by simpa [DenL] using h
  | c :: r, vs, hb, h => by
    simp only [SV.bareL, Bool.and_eq_true] at hb
    simp only [DenL] at h ⊢
    obtain ⟨v, rest, h1, h2, h3⟩ := h; exact ⟨v, rest, h1, den_bare hb.1 h2, denL_bare hb.2 h3⟩
end
theorem EntsP.flat {k v : Sh} (hk : k.flat = true) (hv : v.flat = true) : ∀ {es : List D} {l : List MapEntry}, EntsP Φ w k v es l → EntsP Φ' w k v es l
  | [], l, h => h
  | d :: r, l, ⟨x, t, h1, h2, h3⟩ => ⟨x, t, h1, ⟨denD_flat hk h2.1, denD_flat hv h2.2⟩, EntsP.flat hk hv h3⟩
theorem blk_bare {m : Nm} {b : Blk} (hb : bareB (some b) = true) (h : BlkOK ρ Φ w m b) : BlkOK ρ Φ' w m b := by
  obtain ⟨con, ty, ro⟩ := b
  cases con with
  | cells cs =>
    simp only [bareB, Bool.and_eq_true] at hb
    replace hb := hb.2
    simp only [BlkOK] at h ⊢
    obtain ⟨g, vs, h1, h2, h3⟩ := h; exact ⟨g, vs, h1, h2, denL_bare hb h3⟩
  | rows e nl xs =>
    simp only [bareB, Bool.and_eq_true] at hb
    replace hb := hb.2
    simp only [BlkOK] at h ⊢
    rcases h with h | ⟨g, o, c, cur, h1, h2, h3, h4, h5, h6, h7⟩
    · exact .inl h
    · exact .inr ⟨g, o, c, cur, h1, h2, h3, h4, h5, h6, h7.mono (fun d v hd => denD_flat hb hd)⟩
  | mapc k v es =>
    simp only [bareB, Bool.and_eq_true] at hb
    replace hb := hb.2
    simp only [BlkOK] at h ⊢
    obtain ⟨g, ents, clock, h1, h2, h3, h4, h5, es', h6, h7⟩ := h
    exact ⟨g, ents, clock, h1, h2, h3, h4, h5, es', h6, h7.flat hb.1 hb.2⟩
theorem bare_ro {b : Blk} (hb : bareB (some b) = true) : b.ro = false := by
  obtain ⟨con, ty, ro⟩ := b
  cases con <;> simp only [bareB, Bool.and_eq_true, Bool.not_eq_true'] at hb <;> exact hb.1
theorem bareH_get : ∀ {l : Hp} {k : Nat} {b : Blk}, bareH l = true → l[k]? = some (some b) → bareB (some b) = true
  | [], _, _, _, h => by simp at h
  | a :: r, 0, b, hl, h => by
    simp only [bareH, Bool.and_eq_true] at hl
    simp at h; subst h; exact hl.1
  | a :: r, k + 1, b, hl, h => by
    simp only [bareH, Bool.and_eq_true] at hl
    exact bareH_get hl.2 (by simpa using h)
end

section
variable {P : Program} {ρ ρ' : Names} {H : Hp} {Φ Φ' : Nat → Prop} {w w' : World}

def nodupB : List Nat → Bool
  | [] => true
  | x :: r => r.all (fun y => !Nat.beq x y) && nodupB r
theorem nodupB_spec : ∀ {l : List Nat}, nodupB l = true → l.Nodup
  | [], _ => List.nodup_nil
  | x :: r, h => by
    simp only [nodupB, Bool.and_eq_true, List.all_eq_true, Bool.not_eq_true'] at h
    refine List.nodup_cons.2 ⟨fun hx => ?_, nodupB_spec h.2⟩
    have := h.1 x hx
    simp at this
/-- Each of them is there, and may be turned. -/
def liveB (H : Hp) (s : List Nat) : Bool := s.all fun g => match hget H g with
  | some b => !b.ro
  | none => false
theorem liveB_spec {s : List Nat} (h : liveB H s = true) : ∀ (j g : Nat), s[j]? = some g → ∃ b, hget H g = some b ∧ b.ro = false := by
  intro j g hj
  have := List.all_eq_true.1 h g (List.mem_of_getElem? hj)
  cases hg : hget H g with
  | none => rw [hg] at this; cases this
  | some b => rw [hg] at this; exact ⟨b, rfl, by simpa using this⟩
/-- Each of them is there. -/
def thereB (H : Hp) (s : List Nat) : Bool := s.all fun g => (hget H g).isSome
theorem thereB_spec {s : List Nat} (h : thereB H s = true) : ∀ (j g : Nat), s[j]? = some g → ∃ b, hget H g = some b := by
  intro j g hj
  have := List.all_eq_true.1 h g (List.mem_of_getElem? hj)
  exact Option.isSome_iff_exists.1 this

/-- A contract of a function: what is done at which arguments, beside which heap. -/
structure Ct (P : Program) where
  f : FuncId
  turns : Bool := false
  enters : Enters P f
  spec : CSpec
  calls : ∀ args H t r H', spec args H = some t → t.run = some (r, H') → CallOK P f args H r H'

def fullSpec (pats : List Pat) (tree : List D → Option (Tree (SV × Hp))) : CSpec := fun args H =>
  match takePs pats args [] H with
  | some (ds, s, H1) => match nodupB s && liveB H1 s with
    | true => match tree ds with
      | some t => some (t.bind fun x => .ret (x.1.ren (great s H1.length), mergeH H1 s x.2))
      | none => none
    | false => none
  | none => none

/-- A contract whose function may turn what it is handed. -/
def Ct.full (f : FuncId) (he : Enters P f) (pats : List Pat) (tree : List D → Option (Tree (SV × Hp)))
    (h : ∀ ds t r H', tree ds = some t → t.run = some (r, H') → CallOK P f (mkPs false pats ds []).1 (mkPs false pats ds []).2.2 r H') : Ct P where
  f := f
  turns := true
  enters := he
  spec := fullSpec pats tree
  calls := by
    intro args H t r H' hs hrun ρ Φ w vs hr hd
    unfold fullSpec at hs
    split at hs
    · rename_i ds s H1 ht
      split at hs
      · rename_i hc
        simp only [Bool.and_eq_true] at hc
        split at hs
        · rename_i t0 htree
          simp only [Option.some.injEq] at hs; subst hs
          obtain ⟨x, h1, h2⟩ := Tree.run_bind hrun
          simp only [Tree.run, Option.some.injEq, Prod.mk.injEq] at h2
          obtain ⟨rfl, rfl⟩ := h2
          obtain ⟨Φ1, t1, r1, g1, l1, e1, m1, o1, q1⟩ := takePs_run (ρ := ρ) (w := w) false pats args [] H ds s H1 ht Φ hr vs hd [] ⟨rfl, fun j hj => by simp at hj⟩ []
          simp only [List.append_nil] at o1 q1
          have hn := nodupB_spec hc.1
          have hlive := liveB_spec hc.2
          have hsm := o1.rel r1 hn hlive
          rw [nms_great (s := s) (n := H1.length) (fun k m hk => r1.dom k m hk)] at q1
          refine (CallOK.lift (h ds t0 x.1 x.2 htree h1) r1 hn (fun j g hj => let ⟨b, hb, _⟩ := hlive j g hj; ⟨b, hb⟩) hsm q1).mono ?_
          rintro e w' ⟨v, ρ', Φ', rfl, hd', hr', g'⟩
          exact ⟨v, ρ', Φ', rfl, hd', hr', g1.trans g'⟩
        · cases hs
      · cases hs
    · cases hs

/-- The same places are filled. -/
def sameB : Hp → Hp → Bool
  | [], [] => true
  | some _ :: r, some _ :: r' => sameB r r'
  | none :: r, none :: r' => sameB r r'
  | _, _ => false
theorem sameB_get : ∀ {H H' : Hp}, sameB H H' = true → ∀ k, (hget H k).isSome = (hget H' k).isSome
  | [], [], _, k => rfl
  | some a :: r, some b :: r', h, 0 => rfl
  | some a :: r, some b :: r', h, k + 1 => sameB_get (H := r) (H' := r') h k
  | none :: r, none :: r', h, 0 => rfl
  | none :: r, none :: r', h, k + 1 => sameB_get (H := r) (H' := r') h k
  | [], _ :: _, h, _ | some _ :: _, [], h, _ | none :: _, [], h, _ | some _ :: _, none :: _, h, _ | none :: _, some _ :: _, h, _ => by simp [sameB] at h

def borrowSpec (pats : List Pat) (tree : List D → Option (Tree (SV × Hp))) : CSpec := fun args H =>
  match takePs pats args [] H with
  | some (ds, s, H1) => match nodupB s && (thereB H1 s && sameB H H1) with
    | true => match tree ds with
      | some t => some (t.bind fun x => match x.1.bare && bareH (x.2.drop s.length) with
        | true => .ret (x.1.ren (great s H.length), H ++ (x.2.drop s.length).map (renO (great s H.length)))
        | false => .bad "a contract: its result holds a list")
      | none => none
    | false => none
  | none => none

/-- What a call has made beside what nobody may turn. -/
theorem borrow_rel {s : List Nat} {ρs : Names} {Hs' : Hp} {Φb : Nat → Prop} (hr : Rel ρ H Φ w) (hlive : ∀ (j g : Nat), s[j]? = some g → ∃ b, hget H g = some b) (hb : ∀ k, Φ k → Φb k) (hheld : ∀ k b m q, hget H k = some b → ρ k = some m → m.block = some q → Φb q)
    (hr' : Rel ρs Hs' Φ' w') (g : Grow (fun k => ρ (great s H.length k)) Φb w ρs Φ' w') (hbare : bareH (Hs'.drop s.length) = true) :
    Rel (back ρ s H.length ρs) (H ++ (Hs'.drop s.length).map (renO (great s H.length))) Φ w' ∧ Grow ρ Φ w (back ρ s H.length ρs) Φ w' := by
  have hbg := back_great (s := s) (ρs := ρs) hr hlive g.names
  have hext : Ext Φ w w' := g.ext.less hb
  have up : ∀ q, Named (fun k => ρ (great s H.length k)) q → Named ρ q := fun q ⟨k, m, hk, hm⟩ => ⟨_, m, hk, hm⟩
  have gb : Grow ρ Φ w (back ρ s H.length ρs) Φ w' := by
    refine ⟨⟨fun k m hk => ?_, fun _ h => h, hext⟩, fun q hq => .inl hq, ?_, fun k hk hn => g.frame k hk (fun h => hn (up k h))⟩
    · have := hr.dom k m hk
      unfold back; rw [if_pos this]; exact hk
    · rintro q ⟨k, m, hk, hm⟩
      unfold back at hk
      split at hk
      · exact .inr ⟨k, m, hk, hm⟩
      · exact (g.fresh q ⟨_, m, hk, hm⟩).imp id (up q)
  refine ⟨?_, gb⟩
  have one : ∀ k b, hget (H ++ (Hs'.drop s.length).map (renO (great s H.length))) k = some b → hget H k = some b ∨ (∃ b0, H.length ≤ k ∧ hget Hs' (s.length + (k - H.length)) = some b0 ∧ bareB (some b0) = true ∧ b = b0.ren (great s H.length)) := by
    intro k b hk
    rw [hget_iff] at hk
    rcases Nat.lt_or_ge k H.length with hlt | hge
    · rw [List.getElem?_append_left hlt] at hk; exact .inl (hget_iff.2 hk)
    · rw [List.getElem?_append_right hge, List.getElem?_map] at hk
      cases hj : (Hs'.drop s.length)[k - H.length]? with
      | none => rw [hj] at hk; simp at hk
      | some o =>
        rw [hj] at hk
        cases o with
        | none => simp [renO] at hk
        | some b0 =>
          simp only [Option.map_some, renO, Option.some.injEq] at hk
          have hj' := hj
          rw [List.getElem?_drop] at hj
          exact .inr ⟨b0, hge, hget_iff.2 hj, bareH_get hbare hj', hk.symm⟩
  have old : ∀ k b, hget H k = some b → back ρ s H.length ρs k = ρ k := by
    intro k b hk
    unfold back; rw [if_pos (hget_lt hk)]
  have new : ∀ k, H.length ≤ k → back ρ s H.length ρs k = ρs (s.length + (k - H.length)) := by
    intro k hk; unfold back; rw [if_neg (by omega)]
  have keep : ∀ k b m q, hget H k = some b → ρ k = some m → m.block = some q → w'.heap[q]? = w.heap[q]? := fun k b m q hk hm hq => g.ext.block q (hheld k b m q hk hm hq)
  -- a block of the new ones is none of the old ones that may be turned
  have mis : ∀ k b m q, hget H k = some b → ρ k = some m → m.block = some q → ∀ j b0 m', hget Hs' j = some b0 → b0.ro = false → ρs j = some m' → m'.block ≠ some q := by
    intro k b m q hk hm hq j b0 m' hj hro hm' hq'
    exact hr'.apart j b0 m' q hj hm' hq' hro (g.phi q (hheld k b m q hk hm hq))
  refine ⟨?_, ?_, ?_, ?_, fun k hk => Nat.lt_of_lt_of_le (hr.phi k hk) hext.size, ?_⟩
  · intro k b hk
    rcases one k b hk with h2 | ⟨b0, h1, h2, h3, rfl⟩
    · obtain ⟨m, hm, hok⟩ := hr.own k b h2
      exact ⟨m, by rw [old k b h2]; exact hm, hok.mono gb (fun q hq => keep k b m q h2 hm hq)⟩
    · obtain ⟨m, hm, hok⟩ := hr'.own _ b0 h2
      refine ⟨m, by rw [new k h1]; exact hm, ?_⟩
      rw [blk_ren]
      have e : (fun k => back ρ s H.length ρs (great s H.length k)) = ρs := funext hbg
      rw [e]
      exact blk_bare h3 hok
  · intro k b m q hk hm hq hro
    rcases one k b hk with h2 | ⟨b0, h1, h2, h3, rfl⟩
    · rw [old k b h2] at hm
      exact hr.apart k b m q h2 hm hq hro
    · rw [new k h1] at hm
      exact fun hp => hr'.apart _ b0 m q h2 hm hq hro (g.phi q (hb q hp))
  · intro k b m q hk hm hq hro
    rcases one k b hk with h2 | ⟨b0, h1, h2, h3, rfl⟩
    · rw [old k b h2] at hm
      exact hr.kept k b m q h2 hm hq hro
    · have := bare_ro h3
      simp only [Blk.ren] at hro
      rw [this] at hro; cases hro
  · intro k k' b b' m m' q hk hk' hro hro' hm hm' hq hq'
    rcases one k b hk with h2 | ⟨b0, h1, h2, h3, rfl⟩ <;> rcases one k' b' hk' with h2' | ⟨b0', h1', h2', h3', rfl⟩
    · rw [old k b h2] at hm
      rw [old k' b' h2'] at hm'
      exact hr.inj k k' b b' m m' q h2 h2' hro hro' hm hm' hq hq'
    · rw [old k b h2] at hm
      rw [new k' h1'] at hm'
      exact (mis k b m q h2 hm hq _ b0' m' h2' hro' hm' hq').elim
    · rw [old k' b' h2'] at hm'
      rw [new k h1] at hm
      exact (mis k' b' m' q h2' hm' hq' _ b0 m h2 hro hm hq).elim
    · rw [new k h1] at hm
      rw [new k' h1'] at hm'
      have := hr'.inj _ _ b0 b0' m m' q h2 h2' hro hro' hm hm' hq hq'
      omega
  · intro k m hm
    simp only [List.length_append, List.length_map, List.length_drop]
    rcases Nat.lt_or_ge k H.length with hlt | hge
    · omega
    · rw [new k hge] at hm
      have := hr'.dom _ _ hm; omega

/-- A contract whose function turns nothing of what it is handed: new blocks alone. -/
def Ct.borrow (f : FuncId) (he : Enters P f) (pats : List Pat) (tree : List D → Option (Tree (SV × Hp)))
    (h : ∀ ds t r H', tree ds = some t → t.run = some (r, H') → CallOK P f (mkPs true pats ds []).1 (mkPs true pats ds []).2.2 r H') : Ct P where
  f := f
  enters := he
  spec := borrowSpec pats tree
  calls := by
    intro args H t r H' hs hrun ρ Φ w vs hr hd
    unfold borrowSpec at hs
    split at hs
    · rename_i ds s H1 ht
      split at hs
      · rename_i hc
        simp only [Bool.and_eq_true] at hc
        split at hs
        · rename_i t0 htree
          simp only [Option.some.injEq] at hs; subst hs
          obtain ⟨x, h1, h2⟩ := Tree.run_bind hrun
          split at h2
          · rename_i hbare
            simp only [Bool.and_eq_true] at hbare
            simp only [Tree.run, Option.some.injEq, Prod.mk.injEq] at h2
            obtain ⟨rfl, rfl⟩ := h2
            obtain ⟨Φ1, t1, r1, g1, l1, e1, m1, o1, q1⟩ := takePs_run (ρ := ρ) (w := w) true pats args [] H ds s H1 ht Φ hr vs hd [] ⟨rfl, fun j hj => by simp at hj⟩ []
            simp only [List.append_nil] at o1 q1
            have hn := nodupB_spec hc.1
            have hthere := thereB_spec hc.2.1
            have r2 : Rel ρ (H1.map roB) (heldAll ρ H1 Φ1) w := r1.held (fun _ _ h => h) (Nat.le_refl _)
            have hl2 : (H1.map roB).length = H.length := by rw [List.length_map, l1]
            have there2 : ∀ (j g : Nat), s[j]? = some g → ∃ b, hget (H1.map roB) g = some b ∧ b.ro = true := by
              intro j g hj
              obtain ⟨b, hb⟩ := hthere j g hj
              refine ⟨{ b with ro := true }, ?_, rfl⟩
              rw [hget_iff] at hb ⊢
              rw [List.getElem?_map, hb]; rfl
            have o2 := (o1.mono (Φ' := heldAll ρ H1 Φ1) (H' := H1.map roB) (fun k hk => .inl hk))
            have hsm := o2.rel r2 hn there2
            have q2 := q1.mono (⟨fun _ _ h => h, fun k hk => .inl hk, Ext.refl _ _⟩ : Gro (nms ρ s) Φ1 w (nms ρ s) (heldAll ρ H1 Φ1) w)
            rw [nms_great (s := s) (n := (H1.map roB).length) (fun k m hk => r2.dom k m hk)] at q2
            refine (h ds t0 x.1 x.2 htree h1 _ _ w vs hsm q2).mono ?_
            rintro e w' ⟨v, ρs, Φ', rfl, hd', hr', g'⟩
            rw [hl2] at g'
            have hgs : ∀ k b, hget H k = some b → ∃ b', hget H1 k = some b' := by
              intro k b hk
              have := sameB_get hc.2.2 k
              rw [hk] at this
              exact Option.isSome_iff_exists.1 this.symm
            have hheld : ∀ k b m q, hget H k = some b → ρ k = some m → m.block = some q → heldAll ρ H1 Φ1 q := by
              intro k b m q hk hm hq
              obtain ⟨b', hb'⟩ := hgs k b hk
              exact .inr ⟨k, b', m, hb', hm, hq⟩
            have hlive : ∀ (j g : Nat), s[j]? = some g → ∃ b, hget H g = some b := by
              intro j g hj
              obtain ⟨b, hb⟩ := hthere j g hj
              have := sameB_get hc.2.2 g
              rw [hb] at this
              exact Option.isSome_iff_exists.1 this
            obtain ⟨h5, h6⟩ := borrow_rel hr hlive (fun k hk => .inl (g1.phi k hk)) hheld hr' g' hbare.2
            refine ⟨v, _, Φ, rfl, ?_, h5, h6⟩
            rw [den_ren]
            have e : (fun k => back ρ s H.length ρs (great s H.length k)) = ρs := funext (back_great hr hlive g'.names)
            rw [e]
            exact den_bare hbare.1 hd'
          · simp [Tree.run] at h2
        · cases hs
      · cases hs
    · cases hs
end
end Go.Sy
