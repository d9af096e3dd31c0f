/-
  Contracts: how a call's arguments are taken apart ('Pat', 'takeP'), and what a contract says of the call ('Ct').
  No statement of the seat is proved here. Conditions: none.
-/
import Derived.Test.YtmokkonnilmdfaaY18
set_option linter.unusedSimpArgs false
set_option linter.unusedVariables false
namespace Go.Sy
open Go.RowKit

/-- What an argument must be. 'd': data of a shape; 'fn': just that function, with what it has caught; 'p': a pointer to a block of one's own, seen for the first time; 'same': to one that was seen; 'own': an own list; 'val': just that value. -/
inductive Pat where
  | d (sh : Sh)
  | fn (k : FuncId) (first caps : List Pat)
  | p (ty : TypeId) (cells : List Pat)
  | same (j : Nat)
  | own (ty : TypeId) (sh : Sh)
  | map (ty : TypeId) (k v : Sh)
  | nilm
  | nilp
  | nils
  | nilf
  | lit (k : IntKind) (n : Int)
  deriving Inhabited

mutual
/-- The argument out of data: the value, what is left of the data, the small heap so far. -/
def mkP (ro : Bool) : Pat → List D → Hp → SV × List D × Hp
  | .d sh, ds, Hs => (enc sh (ds.headD default), ds.tail, Hs)
  | .fn k first caps, ds, Hs =>
    let a := mkPs ro first ds Hs
    let b := mkPs ro caps a.2.1 a.2.2
    (.clo (.func k) a.1 b.1, b.2.1, b.2.2)
  | .p ty cells, ds, Hs =>
    let a := mkPs ro cells ds Hs
    (.ref a.2.2.length 0, a.2.1, a.2.2 ++ [some ⟨.cells a.1, ty, ro⟩])
  | .same j, ds, Hs => (.ref j 0, ds, Hs)
  | .own ty sh, ds, Hs => (.own Hs.length, ds.tail, Hs ++ [some ⟨.rows sh (ds.headD default).nl (ds.headD default).xs, ty, ro⟩])
  | .map ty k v, ds, Hs => (.mp Hs.length, ds.tail, Hs ++ [some ⟨.mapc k v (ds.headD default).xs, ty, ro⟩])
  | .nilm, ds, Hs => (.val (.map none), ds, Hs)
  | .nilp, ds, Hs => (.val (.pointer none), ds, Hs)
  | .nils, ds, Hs => (.val (.slice none 0 0), ds, Hs)
  | .nilf, ds, Hs => (.val .nilFunc, ds, Hs)
  | .lit k n, ds, Hs => (.li k n, ds, Hs)
def mkPs (ro : Bool) : List Pat → List D → Hp → List SV × List D × Hp
  | [], ds, Hs => ([], ds, Hs)
  | p :: ps, ds, Hs =>
    let a := mkP ro p ds Hs
    let b := mkPs ro ps a.2.1 a.2.2
    (a.1 :: b.1, b.2.1, b.2.2)
end

mutual
/-- An argument taken apart: its data, the names of the blocks, the heap. -/
def takeP : Pat → SV → List Nat → Hp → Option (List D × List Nat × Hp)
  | .d sh, v, s, H => match freeze sh v H with
    | some (d, H') => some ([d], s, H')
    | none => none
  | .fn k first caps, v, s, H => match v with
    | .clo (.func k') fs cs => match Nat.beq k k' with
      | true => match takePs first fs s H with
        | some (ds, s1, H1) => match takePs caps cs s1 H1 with
          | some (ds2, s2, H2) => some (ds ++ ds2, s2, H2)
          | none => none
        | none => none
      | false => none
    | _ => none
  | .p ty cells, v, s, H => match v with
    | .ref b 0 => match hget H b with
      | some ⟨.cells cs, ty', _⟩ => match Nat.beq ty ty' with
        | true => match takePs cells cs s H with
          | some (ds, s1, H1) => some (ds, s1 ++ [b], H1)
          | none => none
        | false => none
      | _ => none
    | _ => none
  | .same j, v, s, H => match v with
    | .ref b 0 => match s[j]? with
      | some b' => match Nat.beq b b' with
        | true => some ([], s, H)
        | false => none
      | none => none
    | _ => none
  | .own ty sh, v, s, H => match v with
    | .own b => match hget H b with
      | some ⟨.rows sh' nl xs, ty', _⟩ => match Sh.beq sh sh' && Nat.beq ty ty' with
        | true => some ([.l nl xs], s ++ [b], H)
        | false => none
      | _ => none
    | _ => none
  | .map ty k v', v, s, H => match v with
    | .mp b => match hget H b with
      | some ⟨.mapc k2 v2 es, ty', _⟩ => match (Sh.beq k k2 && Sh.beq v' v2) && Nat.beq ty ty' with
        | true => some ([.l false es], s ++ [b], H)
        | false => none
      | _ => none
    | _ => none
  | .nilm, v, s, H => match v with
    | .val (.map none) => some ([], s, H)
    | _ => none
  | .nilp, v, s, H => match v with
    | .val (.pointer none) => some ([], s, H)
    | _ => none
  | .nils, v, s, H => match v with
    | .val (.slice none 0 0) => some ([], s, H)
    | .lst _ true [] => some ([], s, H)
    | _ => none
  | .nilf, v, s, H => match v with
    | .val .nilFunc => some ([], s, H)
    | _ => none
  | .lit k n, v, s, H => match v with
    | .li k' m => match kbeq k k' && (n == m) with
      | true => some ([], s, H)
      | false => none
    | _ => none
def takePs : List Pat → List SV → List Nat → Hp → Option (List D × List Nat × Hp)
  | [], vs, s, H => match vs with
    | [] => some ([], s, H)
    | _ :: _ => none
  | p :: ps, vs, s, H => match vs with
    | v :: vs => match takeP p v s H with
      | some (ds, s1, H1) => match takePs ps vs s1 H1 with
        | some (ds2, s2, H2) => some (ds ++ ds2, s2, H2)
        | none => none
      | none => none
    | [] => none
end

section
variable {ρ : Names} {Φ Φ' : Nat → Prop} {w : World} {n : Nat}

theorem great_append {s t : List Nat} {k : Nat} (h : k < s.length) : great (s ++ t) n k = great s n k := by
  rw [great_lt h, great_lt (by simp; omega)]
  exact List.getElem_append_left h
/-- The small names so far. -/
def nms (ρ : Names) (s : List Nat) : Names := fun k => (s[k]?).bind ρ
theorem nms_great {s : List Nat} (hd : ∀ k m, ρ k = some m → k < n) : nms ρ s = fun k => ρ (great s n k) := by
  funext k
  unfold nms great
  cases h : s[k]? with
  | some g => rfl
  | none =>
    simp only [Option.bind_none]
    cases hk : ρ (n + (k - s.length)) with
    | none => rfl
    | some m => have := hd _ _ hk; omega
theorem nms_gro {s t : List Nat} (hp : ∀ k, Φ k → Φ' k) : Gro (nms ρ s) Φ w (nms ρ (s ++ t)) Φ' w := by
  refine ⟨fun k m hk => ?_, hp, Ext.refl _ _⟩
  unfold nms at hk ⊢
  cases h : s[k]? with
  | none => rw [h] at hk; cases hk
  | some g =>
    have hlt := (List.getElem?_eq_some_iff.1 h).1
    rw [List.getElem?_append_left hlt]; exact hk

/-- What is known of the small heap. -/
def SmallOK (ρ : Names) (Φ : Nat → Prop) (w : World) (ro : Bool) (H : Hp) (s : List Nat) (Hs : Hp) : Prop :=
  s.length = Hs.length ∧ ∀ j : Nat, j < s.length → ∃ g b m, s[j]? = some g ∧ hget Hs j = some b ∧ b.ro = ro ∧ ρ g = some m ∧ BlkOK (nms ρ s) Φ w m b

theorem SmallOK.mono {ro : Bool} {H H' : Hp} {s : List Nat} {Hs : Hp} (h : SmallOK ρ Φ w ro H s Hs) (hp : ∀ k, Φ k → Φ' k) : SmallOK ρ Φ' w ro H' s Hs := by
  refine ⟨h.1, fun j hj => ?_⟩
  obtain ⟨g, b, m, h1, h2, h3, h4, h5⟩ := h.2 j hj
  exact ⟨g, b, m, h1, h2, h3, h4, h5.mono ⟨fun _ _ h => h, hp, Ext.refl _ _⟩ (fun _ _ => rfl)⟩

theorem SmallOK.snoc {ro : Bool} {H : Hp} {s : List Nat} {Hs : Hp} (h : SmallOK ρ Φ w ro H s Hs) {g : Nat} {b : Blk} {m : Nm} (hro : b.ro = ro) (hm : ρ g = some m) (hok : BlkOK (nms ρ s) Φ w m b) : SmallOK ρ Φ w ro H (s ++ [g]) (Hs ++ [some b]) := by
  have gr : Gro (nms ρ s) Φ w (nms ρ (s ++ [g])) Φ w := nms_gro (fun _ h => h)
  refine ⟨by simp [h.1], fun j hj => ?_⟩
  simp only [List.length_append, List.length_singleton] at hj
  rcases Nat.lt_or_ge j s.length with hlt | hge
  · obtain ⟨g', b', m', h1, h2, h3, h4, h5⟩ := h.2 j hlt
    refine ⟨g', b', m', by rw [List.getElem?_append_left hlt]; exact h1, ?_, h3, h4, h5.mono gr (fun _ _ => rfl)⟩
    rw [hget_snoc, if_neg (by rw [← h.1]; omega)]; exact h2
  · have : j = s.length := by omega
    subst this
    refine ⟨g, b, m, by simp, ?_, hro, hm, hok.mono gr (fun _ _ => rfl)⟩
    rw [hget_snoc, if_pos h.1]

mutual
theorem takeP_run (ro : Bool) : ∀ (p : Pat) (v : SV) (s : List Nat) (H : Hp) (ds : List D) (s' : List Nat) (H' : Hp), takeP p v s H = some (ds, s', H') → ∀ Φ, Rel ρ H Φ w → ∀ x, Den ρ Φ w v x → ∀ Hs, SmallOK ρ Φ w ro H s Hs → ∀ rest : List D,
    ∃ Φ' t, Rel ρ H' Φ' w ∧ Grow ρ Φ w ρ Φ' w ∧ H'.length = H.length ∧ s' = s ++ t ∧ (mkP ro p (ds ++ rest) Hs).2.1 = rest ∧ SmallOK ρ Φ' w ro H' s' (mkP ro p (ds ++ rest) Hs).2.2 ∧ Den (nms ρ s') Φ' w (mkP ro p (ds ++ rest) Hs).1 x
  | .d sh, v, s, H, ds, s', H', h, Φ, hr, x, hd, Hs, hs, rest => by
    simp only [takeP] at h
    split at h
    · rename_i d H1 hf
      simp only [Option.some.injEq, Prod.mk.injEq] at h
      obtain ⟨rfl, rfl, rfl⟩ := h
      obtain ⟨Φ1, r1, g1, d1, l1, n1⟩ := freeze_run _ _ _ _ _ hf Φ hr x hd
      refine ⟨Φ1, [], r1, g1, l1, by simp, by simp [mkP], hs.mono g1.phi, ?_⟩
      simp only [mkP, List.singleton_append, List.headD_cons]
      exact enc_den.2 d1
    · cases h
  | .fn k first caps, v, s, H, ds, s', H', h, Φ, hr, x, hd, Hs, hs, rest => by
    simp only [takeP] at h
    split at h
    · rename_i k' fs cs
      split at h
      · rename_i hk
        split at h
        · rename_i ds1 s1 H1 h1
          split at h
          · rename_i ds2 s2 H2 h2
            simp only [Option.some.injEq, Prod.mk.injEq] at h
            obtain ⟨rfl, rfl, rfl⟩ := h
            simp only [Nat.beq_eq] at hk; subst hk
            simp only [Den] at hd
            obtain ⟨xs, ys, rfl, hd1, hd2⟩ := hd
            obtain ⟨Φ1, t1, r1, g1, l1, e1, m1, o1, q1⟩ := takePs_run ro first fs s H ds1 s1 H1 h1 Φ hr xs hd1 Hs hs (ds2 ++ rest)
            obtain ⟨Φ2, t2, r2, g2, l2, e2, m2, o2, q2⟩ := takePs_run ro caps cs s1 H1 ds2 s2 H2 h2 Φ1 r1 ys (hd2.mono g1) _ o1 rest
            subst e1; subst e2
            refine ⟨Φ2, t1 ++ t2, r2, g1.trans g2, by omega, by simp, ?_, ?_, ?_⟩
            · simp only [mkP, List.append_assoc, m1]; exact m2
            · simp only [mkP, List.append_assoc, m1]; exact (by simpa using o2)
            · simp only [mkP, List.append_assoc, m1, Den]
              refine ⟨xs, ys, rfl, ?_, by simpa using q2⟩
              have := q1.mono (nms_gro (t := t2) g2.phi)
              simpa using this
          · cases h
        · cases h
      · cases h
    · cases h
  | .p ty cells, v, s, H, ds, s', H', h, Φ, hr, x, hd, Hs, hs, rest => by
    simp only [takeP] at h
    split at h
    · rename_i b
      split at h
      · rename_i cs ty' ro' hb
        split at h
        · rename_i hty
          split at h
          · rename_i ds1 s1 H1 h1
            simp only [Option.some.injEq, Prod.mk.injEq] at h
            obtain ⟨rfl, rfl, rfl⟩ := h
            simp only [Nat.beq_eq] at hty; subst hty
            obtain ⟨m, hm, hok⟩ := hr.own _ _ hb
            simp only [BlkOK] at hok
            obtain ⟨g, vs, rfl, hg, hv⟩ := hok
            obtain ⟨Φ1, t1, r1, g1, l1, e1, m1, o1, q1⟩ := takePs_run ro cells cs s H ds1 s1 H1 h1 Φ hr vs hv Hs hs rest
            subst e1
            simp only [Den] at hd
            obtain ⟨g', hg', rfl⟩ := hd
            rw [hm] at hg'; simp only [Option.some.injEq, Nm.blk.injEq] at hg'; subst hg'
            refine ⟨Φ1, t1 ++ [b], r1, g1, l1, by simp, by simp [mkP, m1], ?_, ?_⟩
            · simp only [mkP]
              have := o1.snoc (g := b) (b := ⟨.cells (mkPs ro cells (ds1 ++ rest) Hs).1, ty, ro⟩) (m := .blk g) rfl hm (by
                simp only [BlkOK]
                exact ⟨g, vs, rfl, hg, q1⟩)
              simpa using this
            · simp only [mkP, Den]
              refine ⟨g, ?_, rfl⟩
              have hl := o1.1
              rw [← hl]
              unfold nms
              simp [hm]
          · cases h
        · cases h
      · cases h
    · cases h
  | .same j, v, s, H, ds, s', H', h, Φ, hr, x, hd, Hs, hs, rest => by
    simp only [takeP] at h
    split at h
    · rename_i b
      split at h
      · rename_i b' hj
        split at h
        · rename_i he
          simp only [Option.some.injEq, Prod.mk.injEq] at h
          obtain ⟨rfl, rfl, rfl⟩ := h
          simp only [Nat.beq_eq] at he; subst he
          refine ⟨Φ, [], hr, Grow.refl .., rfl, by simp, by simp [mkP], hs, ?_⟩
          simp only [Den] at hd
          obtain ⟨g, hg, rfl⟩ := hd
          simp only [mkP, Den]
          exact ⟨g, by unfold nms; rw [hj]; exact hg, rfl⟩
        · cases h
      · cases h
    · cases h
  | .own ty sh, v, s, H, ds, s', H', h, Φ, hr, x, hd, Hs, hs, rest => by
    simp only [takeP] at h
    split at h
    · rename_i b
      split at h
      · rename_i sh' nl xs ty' ro' hb
        split at h
        · rename_i hc
          simp only [Option.some.injEq, Prod.mk.injEq] at h
          obtain ⟨rfl, rfl, rfl⟩ := h
          simp only [Bool.and_eq_true, Nat.beq_eq] at hc
          obtain ⟨hc1, hc2⟩ := hc
          have := Sh.beq_eq hc1; subst this; subst hc2
          obtain ⟨m, hm, hok⟩ := hr.own _ _ hb
          refine ⟨Φ, [b], hr, Grow.refl .., rfl, rfl, by simp [mkP], ?_, ?_⟩
          · simp only [mkP, List.singleton_append, List.headD_cons, D.nl, D.xs]
            refine hs.snoc (m := m) rfl hm ?_
            simp only [BlkOK] at hok ⊢
            exact hok
          · simp only [mkP, List.singleton_append, List.headD_cons, D.nl, D.xs, Den] at hd ⊢
            have hn : nms ρ (s ++ [b]) Hs.length = ρ b := by unfold nms; rw [← hs.1]; simp
            rw [hn]; exact hd
        · cases h
      · cases h
    · cases h
  | .map ty k v', v, s, H, ds, s', H', h, Φ, hr, x, hd, Hs, hs, rest => by
    simp only [takeP] at h
    split at h
    · rename_i b
      split at h
      · rename_i k2 v2 es ty' ro' hb
        split at h
        · rename_i hc
          simp only [Option.some.injEq, Prod.mk.injEq] at h
          obtain ⟨rfl, rfl, rfl⟩ := h
          simp only [Bool.and_eq_true, Nat.beq_eq] at hc
          obtain ⟨⟨hc0, hc1⟩, hc2⟩ := hc
          have := Sh.beq_eq hc0; subst this
          have := Sh.beq_eq hc1; subst this; subst hc2
          obtain ⟨m, hm, hok⟩ := hr.own _ _ hb
          refine ⟨Φ, [b], hr, Grow.refl .., rfl, rfl, by simp [mkP], ?_, ?_⟩
          · simp only [mkP, List.singleton_append, List.headD_cons, D.nl, D.xs]
            refine hs.snoc (m := m) rfl hm ?_
            simp only [BlkOK] at hok ⊢
            exact hok
          · simp only [mkP, List.singleton_append, List.headD_cons, D.nl, D.xs, Den] at hd ⊢
            have hn : nms ρ (s ++ [b]) Hs.length = ρ b := by unfold nms; rw [← hs.1]; simp
            rw [hn]; exact hd
        · cases h
      · cases h
    · cases h
  | .nilm, v, s, H, ds, s', H', h, Φ, hr, x, hd, Hs, hs, rest => by
    simp only [takeP] at h
    split at h
    · simp only [Option.some.injEq, Prod.mk.injEq] at h
      obtain ⟨rfl, rfl, rfl⟩ := h
      exact ⟨Φ, [], hr, Grow.refl .., rfl, by simp, by simp [mkP], hs, by simpa [mkP, Den] using hd⟩
    · cases h
  | .nilp, v, s, H, ds, s', H', h, Φ, hr, x, hd, Hs, hs, rest => by
    simp only [takeP] at h
    split at h
    · simp only [Option.some.injEq, Prod.mk.injEq] at h
      obtain ⟨rfl, rfl, rfl⟩ := h
      exact ⟨Φ, [], hr, Grow.refl .., rfl, by simp, by simp [mkP], hs, by simpa [mkP, Den] using hd⟩
    · cases h
  | .nils, v, s, H, ds, s', H', h, Φ, hr, x, hd, Hs, hs, rest => by
    simp only [takeP] at h
    split at h
    · simp only [Option.some.injEq, Prod.mk.injEq] at h
      obtain ⟨rfl, rfl, rfl⟩ := h
      exact ⟨Φ, [], hr, Grow.refl .., rfl, by simp, by simp [mkP], hs, by simpa [mkP, Den] using hd⟩
    · simp only [Option.some.injEq, Prod.mk.injEq] at h
      obtain ⟨rfl, rfl, rfl⟩ := h
      refine ⟨Φ, [], hr, Grow.refl .., rfl, by simp, by simp [mkP], hs, ?_⟩
      simp only [Den, DenD, D.nl, D.xs] at hd
      obtain ⟨a, cap, rfl, _, _, q3, q4, _⟩ := hd
      have ha : a = none := q3.1 rfl
      subst ha
      obtain ⟨_, rfl⟩ := q4 rfl
      simp [mkP, Den]
    · cases h
  | .nilf, v, s, H, ds, s', H', h, Φ, hr, x, hd, Hs, hs, rest => by
    simp only [takeP] at h
    split at h
    · simp only [Option.some.injEq, Prod.mk.injEq] at h
      obtain ⟨rfl, rfl, rfl⟩ := h
      exact ⟨Φ, [], hr, Grow.refl .., rfl, by simp, by simp [mkP], hs, by simpa [mkP, Den] using hd⟩
    · cases h
  | .lit k n, v, s, H, ds, s', H', h, Φ, hr, x, hd, Hs, hs, rest => by
    simp only [takeP] at h
    split at h
    · split at h
      · rename_i hc
        simp only [Bool.and_eq_true, beq_iff_eq] at hc
        obtain ⟨hk, rfl⟩ := hc
        have := kbeq_eq hk
        subst this
        simp only [Option.some.injEq, Prod.mk.injEq] at h
        obtain ⟨rfl, rfl, rfl⟩ := h
        exact ⟨Φ, [], hr, Grow.refl .., rfl, by simp, by simp [mkP], hs, by simpa [mkP, Den] using hd⟩
      · cases h
    · cases h
theorem takePs_run (ro : Bool) : ∀ (ps : List Pat) (vs : List SV) (s : List Nat) (H : Hp) (ds : List D) (s' : List Nat) (H' : Hp), takePs ps vs s H = some (ds, s', H') → ∀ Φ, Rel ρ H Φ w → ∀ xs, DenL ρ Φ w vs xs → ∀ Hs, SmallOK ρ Φ w ro H s Hs → ∀ rest : List D,
    ∃ Φ' t, Rel ρ H' Φ' w ∧ Grow ρ Φ w ρ Φ' w ∧ H'.length = H.length ∧ s' = s ++ t ∧ (mkPs ro ps (ds ++ rest) Hs).2.1 = rest ∧ SmallOK ρ Φ' w ro H' s' (mkPs ro ps (ds ++ rest) Hs).2.2 ∧ DenL (nms ρ s') Φ' w (mkPs ro ps (ds ++ rest) Hs).1 xs
  | [], vs, s, H, ds, s', H', h, Φ, hr, xs, hd, Hs, hs, rest => by
    simp only [takePs] at h
    split at h
    · simp only [Option.some.injEq, Prod.mk.injEq] at h
      obtain ⟨rfl, rfl, rfl⟩ := h
      simp only [DenL] at hd; subst hd
      exact ⟨Φ, [], hr, Grow.refl .., rfl, by simp, by simp [mkPs], hs, by simp [mkPs, DenL]⟩
    · cases h
  | p :: ps, vs, s, H, ds, s', H', h, Φ, hr, xs, hd, Hs, hs, rest => by
    simp only [takePs] at h
    split at h
    · rename_i v vs
      split at h
      · rename_i ds1 s1 H1 h1
        split at h
        · rename_i ds2 s2 H2 h2
          simp only [Option.some.injEq, Prod.mk.injEq] at h
          obtain ⟨rfl, rfl, rfl⟩ := h
          simp only [DenL] at hd
          obtain ⟨x, xs, rfl, hd1, hd2⟩ := hd
          obtain ⟨Φ1, t1, r1, g1, l1, e1, m1, o1, q1⟩ := takeP_run ro p v s H ds1 s1 H1 h1 Φ hr x hd1 Hs hs (ds2 ++ rest)
          obtain ⟨Φ2, t2, r2, g2, l2, e2, m2, o2, q2⟩ := takePs_run ro ps vs s1 H1 ds2 s2 H2 h2 Φ1 r1 xs (hd2.mono g1) _ o1 rest
          subst e1; subst e2
          refine ⟨Φ2, t1 ++ t2, r2, g1.trans g2, by omega, by simp, ?_, ?_, ?_⟩
          · simp only [mkPs, List.append_assoc, m1]; exact m2
          · simp only [mkPs, List.append_assoc, m1]; exact (by simpa using o2)
          · simp only [mkPs, List.append_assoc, m1, DenL]
            refine ⟨x, xs, rfl, ?_, by simpa using q2⟩
            have := q1.mono (nms_gro (t := t2) g2.phi)
            simpa using this
        · cases h
      · cases h
    · cases h
end

/-- The small heap is one. -/
theorem SmallOK.rel {H : Hp} {s : List Nat} {Hs : Hp} {ro : Bool} (h : SmallOK ρ Φ w ro H s Hs) (hr : Rel ρ H Φ w) (hn : s.Nodup) (hf : ∀ (j g : Nat), s[j]? = some g → ∃ b, hget H g = some b ∧ b.ro = ro) : Rel (fun k => ρ (great s H.length k)) Hs Φ w := by
  rw [← nms_great (s := s) (fun k m hk => hr.dom k m hk)]
  have at_ : ∀ j b, hget Hs j = some b → ∃ g m b', s[j]? = some g ∧ ρ g = some m ∧ nms ρ s j = some m ∧ b.ro = ro ∧ BlkOK (nms ρ s) Φ w m b ∧ hget H g = some b' ∧ b'.ro = ro := by
    intro j b hj
    have hlt : j < s.length := by rw [h.1]; exact hget_lt hj
    obtain ⟨g, b', m, h1, h2, h3, h4, h5⟩ := h.2 j hlt
    rw [hj] at h2; simp only [Option.some.injEq] at h2; subst h2
    obtain ⟨b2, hb2, hro2⟩ := hf j g h1
    exact ⟨g, m, b2, h1, h4, by unfold nms; rw [h1]; exact h4, h3, h5, hb2, hro2⟩
  refine ⟨?_, ?_, ?_, ?_, hr.phi, ?_⟩
  · intro j b hj
    obtain ⟨g, m, b', _, _, h3, _, h5, _⟩ := at_ j b hj
    exact ⟨m, h3, h5⟩
  · intro j b m q hj hm hq hro
    obtain ⟨g, m', b', _, h2, h3, h4, _, h6, h7⟩ := at_ j b hj
    rw [hm] at h3; simp only [Option.some.injEq] at h3; subst h3
    exact hr.apart g b' m q h6 h2 hq (by rw [h7, ← h4]; exact hro)
  · intro j b m q hj hm hq hro
    obtain ⟨g, m', b', _, h2, h3, h4, _, h6, h7⟩ := at_ j b hj
    rw [hm] at h3; simp only [Option.some.injEq] at h3; subst h3
    exact hr.kept g b' m q h6 h2 hq (by rw [h7, ← h4]; exact hro)
  · intro j j' b b' m m' q hj hj' hro hro' hm hm' hq hq'
    obtain ⟨g, m1, c, e1, h2, h3, h4, _, h6, h7⟩ := at_ j b hj
    obtain ⟨g', m1', c', e1', h2', h3', h4', _, h6', h7'⟩ := at_ j' b' hj'
    rw [hm] at h3; simp only [Option.some.injEq] at h3; subst h3
    rw [hm'] at h3'; simp only [Option.some.injEq] at h3'; subst h3'
    have hg := hr.inj g g' c c' m m' q h6 h6' (by rw [h7, ← h4]; exact hro) (by rw [h7', ← h4']; exact hro') h2 h2' hq hq'
    subst hg
    have i1 := List.getElem?_eq_some_iff.1 e1
    have i2 := List.getElem?_eq_some_iff.1 e1'
    exact (List.getElem_inj hn).1 (i1.2.trans i2.2.symm)
  · intro j m hm
    unfold nms at hm
    cases hj : s[j]? with
    | none => rw [hj] at hm; cases hm
    | some g => have := (List.getElem?_eq_some_iff.1 hj).1; rw [← h.1]; exact this
end
end Go.Sy
