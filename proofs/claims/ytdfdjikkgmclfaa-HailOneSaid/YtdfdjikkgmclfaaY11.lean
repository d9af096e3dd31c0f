/-
  append: as the model has it.
  No statement of the seat is proved here. Conditions: none.
-/
import Derived.Test.YtdfdjikkgmclfaaY10
set_option linter.unusedSimpArgs false
set_option linter.unusedVariables false
namespace Go.Sy
open Go.RowKit

section
variable {P : Program} {T : Tab} [GoodTab P T] {ρ : Names} {H : Hp} {Φ : Nat → Prop} {w : World}

theorem oneCell_of (v : Value) : v.oneCell' = oneV v := by cases v <;> rfl

theorem denD_one {e : Sh} (he : e.isAgg = false) {d : D} {v : Value} (h : DenD Φ w e d v) : oneV v = true := by
  cases e with
  | agg cs => cases he
  | int k => simp only [DenD] at h; subst h; rfl
  | bool => simp only [DenD] at h; subst h; rfl
  | str => simp only [DenD] at h; subst h; rfl
  | list e => simp only [DenD] at h; obtain ⟨_, _, rfl, _⟩ := h; rfl

theorem row_one {e : Sh} (hf : e.fine = true) {d : D} {row : List Value} (hl : row.length = e.size) (h : DenD Φ w e d (packV e.isAgg row)) : ∀ u ∈ row, oneV u = true := by
  intro u hu
  cases he : e.isAgg with
  | false =>
    have h1 : e.size = 1 := by cases e with
      | agg cs => cases he
      | _ => rfl
    rw [h1] at hl
    obtain ⟨r, rfl⟩ := List.length_eq_one_iff.1 hl
    simp at hu; subst hu
    rw [he] at h
    exact denD_one he (by simpa [packV] using h)
  | true =>
    cases e with
    | agg cs =>
      simp only [Sh.isAgg, packV, DenD] at h
      obtain ⟨vs, h1, h2⟩ := h
      have : row = vs := by simpa using h1
      subst this
      obtain ⟨p1, p2⟩ := DenDs_iff.1 h2
      obtain ⟨i, hi⟩ := List.getElem?_of_mem hu
      have hil : i < cs.length := by have := (List.getElem?_eq_some_iff.1 hi).1; omega
      obtain ⟨v, hv, hd⟩ := p2 i cs[i] (List.getElem?_eq_getElem hil)
      rw [hi] at hv; simp only [Option.some.injEq] at hv; subst hv
      simp only [Sh.fine, List.all_eq_true, Bool.not_eq_true'] at hf
      exact denD_one (hf _ (List.getElem_mem hil)) hd
    | _ => all_goals cases he

theorem rows_one {e : Sh} (hf : e.fine = true) : ∀ {xs : List D} {fl : List Value}, RowsP (fun d v => DenD Φ w e d v) e.isAgg e.size xs fl → ∀ u ∈ fl, oneV u = true
  | [], fl, h, u, hu => by simp only [RowsP] at h; subst h; simp at hu
  | d :: r, fl, ⟨row, rest, h1, h2, h3, h4⟩, u, hu => by
    subst h1
    rcases List.mem_append.1 hu with hu | hu
    · exact row_one hf h2 h3 u hu
    · exact rows_one hf h4 u hu

theorem srcRows_run {e : Sh} {x : SV} {u : Value} {ys : List D} {H1 : Hp} (hrel : Rel ρ H Φ w) (hx : Den ρ Φ w x u) (h : srcRows H e x = some (ys, H1)) :
    ∃ Φ1 fl a cap, Rel ρ H1 Φ1 w ∧ Grow ρ Φ w ρ Φ1 w ∧ H1.length = H.length ∧ u = .slice a ys.length cap ∧ RowsP (fun d v => DenD Φ1 w e d v) e.isAgg e.size ys fl ∧ (a = none → ys = [] ∧ cap = 0) ∧
      ∀ p, a = some p → ∀ j v, fl[j]? = some v → w.cell? (p.add j) = some v := by
  unfold srcRows at h
  split at h
  · rename_i nl ys' H' hfr
    simp only [Option.some.injEq, Prod.mk.injEq] at h
    obtain ⟨rfl, hH⟩ := h
    obtain ⟨Φ1, r1, g1, d1, l1, _⟩ := freeze_run _ _ _ _ _ hfr Φ hrel u hx
    have gen : H1 = H' → ∃ Φ1 fl a cap, Rel ρ H1 Φ1 w ∧ Grow ρ Φ w ρ Φ1 w ∧ H1.length = H.length ∧ u = .slice a ys'.length cap ∧ RowsP (fun d v => DenD Φ1 w e d v) e.isAgg e.size ys' fl ∧ (a = none → ys' = [] ∧ cap = 0) ∧
        ∀ p, a = some p → ∀ j v, fl[j]? = some v → w.cell? (p.add j) = some v := by
      intro he
      subst he
      simp only [DenD, D.nl, D.xs] at d1
      obtain ⟨a, cap, rfl, q1, q2, q3, q4, q5⟩ := d1
      cases a with
      | none =>
        obtain ⟨rfl, rfl⟩ := q4 rfl
        exact ⟨Φ1, [], none, 0, r1, g1, l1, rfl, rfl, fun _ => ⟨rfl, rfl⟩, fun p hp => by cases hp⟩
      | some p =>
        by_cases hemp : ys' = []
        · subst hemp
          exact ⟨Φ1, [], some p, cap, r1, g1, l1, rfl, rfl, (fun hn => by cases hn), fun p' hp' j v hv => by simp at hv⟩
        obtain ⟨s1, s2, fl, s3, s4⟩ := q5 p rfl hemp
        have hp : p = ⟨p.block, p.off, none⟩ := by cases p; simp_all
        refine ⟨Φ1, fl, some p, cap, r1, g1, l1, rfl, s3, (fun hn => by cases hn), fun p' hp' j v hv => ?_⟩
        simp only [Option.some.injEq] at hp'; subst hp'
        rw [hp, addr_add]; exact s4 j v hv
    split at hH
    · rename_i b
      subst hH
      simp only [freeze] at hfr
      split at hfr
      · rename_i e' nl' xs' ty ro hb
        split at hfr
        · rename_i he
          have := Sh.beq_eq he; subst this
          simp only [Option.some.injEq, Prod.mk.injEq, D.l.injEq] at hfr
          obtain ⟨⟨rfl, rfl⟩, rfl⟩ := hfr
          obtain ⟨m, hm, hok⟩ := hrel.own _ _ hb
          simp only [BlkOK] at hok
          simp only [Den] at hx
          rcases hok with ⟨rfl, _, rfl⟩ | ⟨g, c, cur, rfl, h1, h2, h3, h4, h5, h6⟩
          · rcases hx with ⟨_, _, _, q1, _⟩ | ⟨_, rfl⟩
            · rw [hm] at q1; cases q1
            · exact ⟨Φ, [], none, 0, hrel, Grow.refl .., rfl, rfl, rfl, fun _ => ⟨rfl, rfl⟩, fun p hp => by cases hp⟩
          · rcases hx with ⟨_, _, _, q1, rfl⟩ | ⟨q1, _⟩
            · rw [hm] at q1; simp only [Option.some.injEq, Nm.row.injEq] at q1
              obtain ⟨rfl, rfl, rfl⟩ := q1
              refine ⟨Φ, _, some ⟨g, 0, none⟩, c, hrel, Grow.refl .., rfl, rfl, h6, (fun hn => by cases hn), fun p hp j v hv => ?_⟩
              simp only [Option.some.injEq] at hp; subst hp
              rw [addr_add, Nat.zero_add]
              exact own_rows_cell h4 j v hv
            · rw [hm] at q1; cases q1
        · cases hfr
      · cases hfr
    · exact gen hH.symm
  · cases h

theorem own_nil {b : Nat} (h : ρ b = some .nil) : Den ρ Φ w (.own b) (.slice none 0 0) := by simp only [Den]; exact .inr ⟨h, trivial⟩
theorem own_row {b g n n' c : Nat} (h : ρ b = some (.row g n c)) (hn : n' = n) : Den ρ Φ w (.own b) (.slice (some ⟨g, 0, none⟩) n' c) := by subst hn; simp only [Den]; exact .inl ⟨_, _, _, h, rfl⟩
theorem BlkOK.nil_ {e : Sh} {u : TypeId} {r : Bool} : BlkOK ρ Φ w .nil ⟨.rows e true [], u, r⟩ := Or.inl ⟨rfl, rfl, rfl⟩
theorem BlkOK.row_ {e : Sh} {xs : List D} {u : TypeId} {r : Bool} {g c : Nat} {cur : Array Value} (h2 : xs.length ≤ c) (h3 : c ≤ maxLen) (h4 : w.heap[g]? = some (.cells cur u (0, 0))) (h5 : cur.size = c * e.size)
    (h6 : RowsP (fun d v => DenD Φ w e d v) e.isAgg e.size xs (cur.toList.take (xs.length * e.size))) : BlkOK ρ Φ w (.row g xs.length c) ⟨.rows e false xs, u, r⟩ := Or.inr ⟨g, c, cur, rfl, rfl, h2, h3, h4, h5, h6⟩

/-- The rows, all of them, in a block that has been made. -/
theorem ownsRow_blk {e : Sh} {xs : List D} {fl : List Value} {v' : Value} {g : Nat} {base : Nat} {u : TypeId} {w' : World} {n : Nat} (hn : n = xs.length) (ho : w'.ownsRow base u e.size v' n fl) (hr : RowsP (fun d v => DenD Φ w' e d v) e.isAgg e.size xs fl) :
    (v' = .slice none 0 0 ∧ xs = [] ∧ BlkOK ρ Φ w' .nil ⟨.rows e true xs, u, false⟩) ∨
    ∃ g c, v' = .slice (some ⟨g, 0, none⟩) xs.length c ∧ base ≤ g ∧ BlkOK ρ Φ w' (.row g xs.length c) ⟨.rows e false xs, u, false⟩ := by
  subst hn
  rcases ho.2 with ⟨rfl, hn⟩ | ⟨g, cap, cur, rfl, h1, h2, h3, h4, h5, h6⟩
  · have := List.length_eq_zero_iff.1 hn; subst this
    exact .inl ⟨rfl, rfl, BlkOK.nil_⟩
  · exact .inr ⟨g, cap, rfl, h1, BlkOK.row_ h3 h4 h2 h5 (by rw [h6]; exact hr)⟩

theorem zero_of {u : TypeId} {zl : List SV} (hzl : zeroL T u = some zl) {n by_ : Nat} (hby : bytesT T u = some by_) (hs : sizeT T u = some n) (hz : zl.length = n) : ∃ i z, P.info? u = some i ∧ i.zero = some z ∧ i.size = n ∧ i.bytes = by_ ∧ z.cells.size = n := by
  unfold zeroL at hzl
  unfold bytesT at hby
  unfold sizeT at hs
  cases hr : T.row u with
  | none => simp [hr] at hs
  | some rr =>
    simp only [hr, Option.some.injEq] at hzl hby hs
    obtain ⟨_, ⟨i, hi, h2, h3, h4⟩, _⟩ := GoodTab.row (P := P) u rr hr
    obtain ⟨z, hz1, hz2⟩ := h4 zl hzl
    refine ⟨i, z, hi, hz1, by rw [h2, hs], by rw [h3, hby], ?_⟩
    rw [← hz, ← hz2]; simp

theorem grown_ext {w' : World} {row : Option Nat} (hphi : ∀ k, Φ k → k < w.heap.size) (hg : w.grownBy w' row) (hr : ∀ g, row = some g → ¬ Φ g) : Ext Φ w w' :=
  ⟨hg.os, hg.tape, hg.output, hg.size, fun k hk => hg.block k (hphi k hk) (fun e => hr k e.symm hk)⟩

theorem appendE_run (hrel : Rel ρ H Φ w) {t ty : TypeId} {s x r : SV} {sv xv : Value} {H' : Hp} (hs : Den ρ Φ w s sv) (hx : Den ρ Φ w x xv) (h : (appendE T H t s x).run = some (r, H')) :
    ∃ r0 w' ρ' Φ', (Builtin.append_ #[t, t] ty #[sv, xv]).run P w = .ok r0 w' ∧ Den ρ' Φ' w' r r0 ∧ Rel ρ' H' Φ' w' ∧ Grow ρ Φ w ρ' Φ' w' := by
  unfold appendE at h
  split at h
  · rename_i u hu
    split at h
    · rename_i e by_ zl hsh hby hzl
      split at h
      · rename_i ut hrt
        obtain ⟨r1, r2, r3⟩ := rowT_run hrt
        rw [hu] at r1; simp only [Option.some.injEq, TypeDesc.slice.injEq] at r1; subst r1
        split at h
        · simp [Tree.run] at h
        · rename_i hcc
          simp only [Bool.and_eq_true, Nat.beq_eq, Bool.not_eq_true'] at hcc
          obtain ⟨⟨hz1, hz2⟩, hfine⟩ := hcc
          have hsz : 0 < e.size := Nat.pos_of_ne_zero (nbf.1 hz2)
          obtain ⟨i, z, hi, hz, his, hib, hzs⟩ := zero_of (P := P) hzl hby r2 hz1
          have hu := und_of (P := P) hu
          -- onto the nil list
          have nilCase : sv = .slice none 0 0 → (match srcRows H e x with
              | some (ys, H') => Tree.need (roomFor ys.length by_) (.ret (SV.own H'.length, H' ++ [some (Blk.mk (.rows e ys.isEmpty ys) u false)]))
              | none => .bad "append: what is appended").run = some (r, H') →
              ∃ r0 w' ρ' Φ', (Builtin.append_ #[t, t] ty #[sv, xv]).run P w = .ok r0 w' ∧ Den ρ' Φ' w' r r0 ∧ Rel ρ' H' Φ' w' ∧ Grow ρ Φ w ρ' Φ' w' := by
            intro hsv h
            subst hsv
            split at h
            · rename_i ys H1 hsrc
              obtain ⟨hroom, h⟩ := Tree.run_need h
              simp only [roomFor, Bool.and_eq_true, decide_eq_true_eq] at hroom
              simp only [Tree.run, Option.some.injEq, Prod.mk.injEq] at h
              obtain ⟨rfl, rfl⟩ := h
              obtain ⟨Φ1, fl, a, cap, q1, q2, q3, rfl, q5, q6, q7⟩ := srcRows_run hrel hx hsrc
              cases a with
              | none =>
                obtain ⟨rfl, rfl⟩ := q6 rfl
                have hrun := run_append_owned_none (P := P) (w := w) w.heap.size t ty u i e.size hu hi _ 0 [] (World.ownsRow_nil w _ u e.size)
                have hadd := q1.add (w' := w) (m := .nil) (b := ⟨.rows e true [], u, false⟩) rfl (Ext.refl _ _) (fun _ _ _ _ _ _ _ => rfl) (fun q hq => by cases hq) BlkOK.nil_
                exact ⟨_, w, named ρ H1.length .nil, Φ1, hrun, own_nil (named_at ..), hadd, q2.trans (q1.grow_named .nil (Ext.refl _ _) (fun q hq => by cases hq) (fun _ _ _ => rfl))⟩
              | some p =>
                have hm := q5.length
                obtain ⟨v', w', g1, g2, g3, g4⟩ := run_append_own (P := P) w w.heap.size t ty u i z e.size by_ hu hi hz his hib hzs hsz _ 0 [] (World.ownsRow_nil w _ u e.size) p ys.length cap fl hm (q7 p rfl)
                  (fun v hv => by rw [oneCell_of]; exact rows_one hfine q5 v hv) (by have : ys.length ≤ 4611686018427387904 := hroom.2; simp only [maxLen]; omega) (by simpa using hroom.1) (Nat.le_refl _)
                have he : Ext Φ1 w w' := grown_ext q1.phi g3 (fun g hg => by simp [Value.ownBlock] at hg)
                have gw : Gro ρ Φ1 w ρ Φ1 w' := Gro.world he
                have hold : ∀ k b m q, hget H1 k = some b → ρ k = some m → m.block = some q → w'.heap[q]? = w.heap[q]? := fun k b m q hk hm hq => g3.block q (q1.lt hk hm hq) (by simp [Value.ownBlock])
                simp only [Nat.zero_add, List.nil_append] at g2
                rcases ownsRow_blk (ρ := ρ) (Φ := Φ1) (g := 0) rfl g2 (q5.mono (fun d v hd => DenD.mono gw.ext gw.phi hd)) with ⟨rfl, rfl, hok⟩ | ⟨g, c, rfl, hge, hok⟩
                · have hadd := q1.add (w' := w') (m := .nil) (b := ⟨.rows e true [], u, false⟩) rfl he hold (fun q hq => by cases hq) BlkOK.nil_
                  exact ⟨_, w', named ρ H1.length .nil, Φ1, g1, own_nil (named_at ..), hadd, q2.trans (q1.grow_named .nil he (fun q hq => by cases hq) (fun k hk _ => g3.block k hk (by simp [Value.ownBlock])))⟩
                · have hys : ys.isEmpty = false := by
                    cases ys with
                    | nil =>
                      have := g4.2 ⟨rfl, rfl⟩; cases this
                    | cons a b => rfl
                  have hadd := q1.add (w' := w') (m := .row g ys.length c) (b := ⟨.rows e false ys, u, false⟩) rfl he hold (fun q hq => by
                    simp only [Nm.block, Option.some.injEq] at hq; subst hq
                    exact ⟨fun hp => by have := q1.phi _ hp; omega, fun k b m' hk _ hm' e => by have := q1.lt hk hm' e; omega⟩) (hok.mono (q1.gro_at _ _) (fun _ _ => rfl))
                  rw [hys]
                  exact ⟨_, w', named ρ H1.length (.row g ys.length c), Φ1, g1, own_row (named_at ..) rfl, hadd, q2.trans (q1.grow_named _ he (fun q hq => by simp only [Nm.block, Option.some.injEq] at hq; subst hq; exact .inl hge) (fun k hk _ => g3.block k hk (by simp [Value.ownBlock])))⟩
            · simp [Tree.run] at h
          split at h
          · simp only [Den] at hs
            exact nilCase hs h
          · simp only [Den, DenD, D.nl, D.xs] at hs
            obtain ⟨a, cap, rfl, _, _, q3, q4, _⟩ := hs
            have ha : a = none := q3.1 rfl
            subst ha
            obtain ⟨_, rfl⟩ := q4 rfl
            exact nilCase rfl h
          · rename_i b
            split at h
            · rename_i ys H1 hsrc
              split at h
              · rename_i e' nl xs u' hb
                split at h
                · rename_i heq
                  simp only [Bool.and_eq_true, Nat.beq_eq] at heq
                  obtain ⟨he1, he2⟩ := heq
                  have := Sh.beq_eq he1; subst this
                  subst he2
                  obtain ⟨hroom, h⟩ := Tree.run_need h
                  simp only [roomFor, Bool.and_eq_true, decide_eq_true_eq] at hroom
                  simp only [Tree.run, Option.some.injEq, Prod.mk.injEq] at h
                  obtain ⟨rfl, rfl⟩ := h
                  obtain ⟨Φ1, fl, a, cap, q1, q2, q3, rfl, q5, q6, q7⟩ := srcRows_run hrel hx hsrc
                  obtain ⟨m, hm, hok⟩ := q1.own _ _ hb
                  have hblt := hget_lt hb
                  have qk := q1.kill b
                  have hlen : H1.length = (H1.set b none).length := by simp
                  have hgk : ∀ k c, hget (H1.set b none) k = some c → k ≠ b ∧ hget H1 k = some c := by
                    intro k c hk
                    rw [hget_set hblt] at hk
                    split at hk
                    · cases hk
                    · rename_i hne; exact ⟨fun e => hne e.symm, hk⟩
                  have hsb := hs
                  simp only [Den] at hsb
                  simp only [BlkOK] at hok
                  have big : xs.length + ys.length ≤ maxLen := by simp only [maxLen]; omega
                  rcases hok with ⟨rfl, rfl, rfl⟩ | ⟨g, c, cur, rfl, rfl, h2, h3, h4, h5, h6⟩
                  · -- the list was nil
                    rcases hsb with ⟨_, _, _, s1, _⟩ | ⟨_, rfl⟩
                    · rw [hm] at s1; cases s1
                    · simp only [List.nil_append, Bool.true_and] at *
                      cases a with
                      | none =>
                        obtain ⟨rfl, rfl⟩ := q6 rfl
                        have hrun := run_append_owned_none (P := P) (w := w) w.heap.size t ty u i e.size hu hi _ 0 [] (World.ownsRow_nil w _ u e.size)
                        have hadd := qk.add (w' := w) (m := .nil) (b := ⟨.rows e true [], u, false⟩) rfl (Ext.refl _ _) (fun _ _ _ _ _ _ _ => rfl) (fun q hq => by cases hq) BlkOK.nil_
                        have gn := qk.grow_named (w' := w) .nil (Ext.refl _ _) (fun q hq => by cases hq) (fun _ _ _ => rfl)
                        rw [← hlen] at hadd gn
                        exact ⟨_, w, named ρ H1.length .nil, Φ1, hrun, own_nil (named_at ..), hadd, q2.trans gn⟩
                      | some p =>
                        have hml := q5.length
                        obtain ⟨v', w', g1, g2, g3, g4⟩ := run_append_own (P := P) w w.heap.size t ty u i z e.size by_ hu hi hz his hib hzs hsz _ 0 [] (World.ownsRow_nil w _ u e.size) p ys.length cap fl hml (q7 p rfl)
                          (fun v hv => by rw [oneCell_of]; exact rows_one hfine q5 v hv) (by simpa using big) (by simpa using hroom.1) (Nat.le_refl _)
                        have he : Ext Φ1 w w' := grown_ext q1.phi g3 (fun g hg => by simp [Value.ownBlock] at hg)
                        have gw : Gro ρ Φ1 w ρ Φ1 w' := Gro.world he
                        have hold : ∀ k c m q, hget (H1.set b none) k = some c → ρ k = some m → m.block = some q → w'.heap[q]? = w.heap[q]? := fun k c m q hk hm hq => g3.block q (qk.lt hk hm hq) (by simp [Value.ownBlock])
                        simp only [Nat.zero_add, List.nil_append] at g2
                        rcases ownsRow_blk (ρ := ρ) (Φ := Φ1) (g := 0) rfl g2 (q5.mono (fun d v hd => DenD.mono gw.ext gw.phi hd)) with ⟨rfl, rfl, hok⟩ | ⟨g, c, rfl, hge, hok⟩
                        · have hadd := qk.add (w' := w') (m := .nil) (b := ⟨.rows e true [], u, false⟩) rfl he hold (fun q hq => by cases hq) BlkOK.nil_
                          have gn := qk.grow_named .nil he (fun q hq => by cases hq) (fun k hk _ => g3.block k hk (by simp [Value.ownBlock]))
                          rw [← hlen] at hadd gn
                          exact ⟨_, w', named ρ H1.length .nil, Φ1, g1, own_nil (named_at ..), hadd, q2.trans gn⟩
                        · have hys : ys.isEmpty = false := by
                            cases ys with
                            | nil => have := g4.2 ⟨rfl, rfl⟩; cases this
                            | cons a b => rfl
                          have hadd := qk.add (w' := w') (m := .row g ys.length c) (b := ⟨.rows e false ys, u, false⟩) rfl he hold (fun q hq => by
                            simp only [Nm.block, Option.some.injEq] at hq; subst hq
                            exact ⟨fun hp => by have := q1.phi _ hp; omega, fun k b m' hk _ hm' e => by have := qk.lt hk hm' e; omega⟩) (hok.mono (qk.gro_at _ _) (fun _ _ => rfl))
                          have gn := qk.grow_named (.row g ys.length c) he (fun q hq => by simp only [Nm.block, Option.some.injEq] at hq; subst hq; exact .inl hge) (fun k hk _ => g3.block k hk (by simp [Value.ownBlock]))
                          rw [← hlen] at hadd gn
                          rw [hys]
                          exact ⟨_, w', named ρ H1.length (.row g ys.length c), Φ1, g1, own_row (named_at ..) rfl, hadd, q2.trans gn⟩
                  · -- the list has a block
                    rcases hsb with ⟨_, _, _, s1, rfl⟩ | ⟨s1, _⟩
                    · rw [hm] at s1; simp only [Option.some.injEq, Nm.row.injEq] at s1
                      obtain ⟨rfl, rfl, rfl⟩ := s1
                      have hap := q1.apart _ _ _ _ hb hm rfl rfl
                      have hglt := q1.lt hb hm rfl
                      have hfree : ∀ k c m', hget (H1.set b none) k = some c → c.ro = false → ρ k = some m' → m'.block ≠ some g := by
                        intro k c' m' hk hro hm' e
                        obtain ⟨hne, hk'⟩ := hgk k c' hk
                        exact hne (q1.inj k b c' _ m' _ g hk' hb hro rfl hm' hm e rfl)
                      have hold1 : ∀ k c m q, hget (H1.set b none) k = some c → ρ k = some m → m.block = some q → q ≠ g := by
                        intro k c' m' q hk hm' hq e
                        subst e
                        obtain ⟨hne, hk'⟩ := hgk k c' hk
                        cases hro : c'.ro with
                        | false => exact hfree k c' m' hk hro hm' hq
                        | true => exact hap (q1.kept k c' m' q hk' hm' hq hro)
                      have h6l := h6.length
                      simp only [Bool.false_and]
                      cases a with
                      | none =>
                        obtain ⟨rfl, rfl⟩ := q6 rfl
                        have hown : w.ownsRow 0 u e.size (.slice (some ⟨g, 0, none⟩) xs.length c) xs.length (cur.toList.take (xs.length * e.size)) :=
                          ⟨h6l, .inr ⟨g, c, cur, rfl, Nat.zero_le _, h4, h2, h3, h5, rfl⟩⟩
                        have hrun := run_append_owned_none (P := P) (w := w) 0 t ty u i e.size hu hi _ _ _ hown
                        have hadd := qk.add (w' := w) (m := .row g xs.length c) (b := ⟨.rows e false (xs ++ []), u, false⟩) rfl (Ext.refl _ _) (fun _ _ _ _ _ _ _ => rfl) (fun q hq => by
                          simp only [Nm.block, Option.some.injEq] at hq; subst hq; exact ⟨hap, hfree⟩) (by
                          rw [List.append_nil]
                          exact BlkOK.row_ h2 h3 h4 h5 h6)
                        have gn := qk.grow_named (w' := w) (.row g xs.length c) (Ext.refl _ _) (fun q hq => .inr ⟨b, _, hm, hq⟩) (fun _ _ _ => rfl)
                        rw [← hlen] at hadd gn
                        exact ⟨_, w, named ρ H1.length (.row g xs.length c), Φ1, hrun, own_row (named_at ..) rfl, hadd, q2.trans gn⟩
                      | some p =>
                        have hml := q5.length
                        have hone : ∀ v ∈ fl, v.oneCell' = true := fun v hv => by rw [oneCell_of]; exact rows_one hfine q5 v hv
                        by_cases hfit : xs.length + ys.length ≤ c
                        · -- in its place
                          have hcs : xs.length * e.size + fl.length ≤ cur.size := by rw [hml, h5, ← Nat.add_mul]; exact Nat.mul_le_mul_right _ hfit
                          have hrun := run_append_room (P := P) w t ty u i hu hi g xs.length c cur h4 p ys.length cap fl (by rw [hml, his]) (q7 p rfl) hone hfit (by rw [his]; exact hcs)
                          rw [his] at hrun
                          generalize hcd : (cur.toList.take (xs.length * e.size) ++ fl ++ cur.toList.drop (xs.length * e.size + fl.length)).toArray = cur2 at hrun
                          have hsz2 : cur2.size = cur.size := by rw [← hcd]; simp; omega
                          have he : Ext Φ1 w (w.setRow g cur2) := ⟨rfl, rfl, rfl, by simp [World.setRow], fun k hk => setRow_other w g k cur2 (fun e => hap (e ▸ hk))⟩
                          have gw : Gro ρ Φ1 w ρ Φ1 _ := Gro.world he
                          have htake : cur2.toList.take ((xs ++ ys).length * e.size) = cur.toList.take (xs.length * e.size) ++ fl := by
                            rw [← hcd]
                            simp only [List.toList_toArray]
                            have : (cur.toList.take (xs.length * e.size) ++ fl).length = (xs ++ ys).length * e.size := by simp only [List.length_append, h6l, hml, Nat.add_mul]
                            rw [← this]; exact List.take_left
                          have hadd := qk.add (w' := w.setRow g cur2) (m := .row g (xs ++ ys).length c) (b := ⟨.rows e false (xs ++ ys), u, false⟩) rfl he (fun k c' m' q hk hm' hq => setRow_other w g q cur2 (hold1 k c' m' q hk hm' hq)) (fun q hq => by
                            simp only [Nm.block, Option.some.injEq] at hq; subst hq; exact ⟨hap, hfree⟩) (by
                            refine BlkOK.row_ (by simpa using hfit) h3 (setRow_heap w g cur cur2 u _ h4) (by rw [hsz2, h5]) ?_
                            rw [htake]
                            exact (h6.mono (fun d v hd => DenD.mono gw.ext gw.phi hd)).append (q5.mono (fun d v hd => DenD.mono gw.ext gw.phi hd)))
                          have gn := qk.grow_named (.row g (xs ++ ys).length c) he (fun q hq => .inr ⟨b, _, hm, hq⟩) (fun k _ hn => setRow_other w g k cur2 (fun e => hn ⟨b, _, hm, by rw [e]; rfl⟩))
                          rw [← hlen] at hadd gn
                          exact ⟨_, _, named ρ H1.length (.row g (xs ++ ys).length c), Φ1, hrun, own_row (named_at ..) (by simp), hadd, q2.trans gn⟩
                        · -- into a new block
                          have hcells : ∀ j v, (cur.toList.take (xs.length * e.size))[j]? = some v → w.cell? ((⟨g, 0, none⟩ : Addr).add j) = some v := fun j v hv => by rw [addr_add, Nat.zero_add]; exact own_rows_cell h4 j v hv
                          have hrun := run_append_grow (P := P) w t ty u i z hu hi hz ⟨g, 0, none⟩ xs.length c (cur.toList.take (xs.length * e.size)) (by rw [h6l, his]) hcells p ys.length cap fl (by rw [hml, his]) (q7 p rfl) (by omega)
                            (by have := hroom.2; omega) (growslice_fits (by omega) (by rw [hib]; exact hroom.1))
                          generalize hcc : grownCap w (xs.length + ys.length) c u = c2 at hrun
                          have hge : xs.length + ys.length ≤ c2 := by rw [← hcc]; exact grownCap_ge w _ _ _
                          have hcm : c2 ≤ maxLen := by rw [← hcc]; exact grownCap_le_maxLen w _ _ _ big
                          generalize hcd : ((cur.toList.take (xs.length * e.size)).toArray ++ fl.toArray ++ Builtin.zeroCells z.cells (c2 - (xs.length + ys.length))) = cur2 at hrun
                          have hsz2 : cur2.size = c2 * e.size := by
                            rw [← hcd]
                            simp only [Array.size_append, List.size_toArray, size_zeroCells, hzs, h6l, hml, ← Nat.add_mul]
                            congr 1; omega
                          have he : Ext Φ1 w (w.drew.alloc (.cells cur2 u)) := ⟨rfl, rfl, rfl, by simp, fun k hk => by have := q1.phi k hk; exact Below.heap_alloc w.drew _ k this⟩
                          have gw : Gro ρ Φ1 w ρ Φ1 _ := Gro.world he
                          have htake : cur2.toList.take ((xs ++ ys).length * e.size) = cur.toList.take (xs.length * e.size) ++ fl := by
                            rw [← hcd]
                            simp only [Array.toList_append, List.toList_toArray]
                            have : (cur.toList.take (xs.length * e.size) ++ fl).length = (xs ++ ys).length * e.size := by simp only [List.length_append, h6l, hml, Nat.add_mul]
                            rw [← this]; exact List.take_left
                          have hadd := qk.add (w' := w.drew.alloc (.cells cur2 u)) (m := .row w.heap.size (xs ++ ys).length c2) (b := ⟨.rows e false (xs ++ ys), u, false⟩) rfl he (fun k c' m' q hk hm' hq => Below.heap_alloc w.drew _ q (qk.lt hk hm' hq)) (fun q hq => by
                            simp only [Nm.block, Option.some.injEq] at hq; subst hq
                            exact ⟨fun hp => by have := q1.phi _ hp; omega, fun k c' m' hk _ hm' e => by have := qk.lt hk hm' e; omega⟩) (by
                            refine BlkOK.row_ (by simpa using hge) hcm (by show (w.heap.push _)[w.heap.size]? = _; simp) hsz2 ?_
                            rw [htake]
                            exact (h6.mono (fun d v hd => DenD.mono gw.ext gw.phi hd)).append (q5.mono (fun d v hd => DenD.mono gw.ext gw.phi hd)))
                          have gn := qk.grow_named (.row w.heap.size (xs ++ ys).length c2) he (fun q hq => by simp only [Nm.block, Option.some.injEq] at hq; subst hq; exact .inl (Nat.le_refl _)) (fun k hk _ => Below.heap_alloc w.drew _ k hk)
                          rw [← hlen] at hadd gn
                          exact ⟨_, _, named ρ H1.length (.row w.heap.size (xs ++ ys).length c2), Φ1, hrun, own_row (named_at ..) (by simp), hadd, q2.trans gn⟩
                    · rw [hm] at s1; cases s1
                · simp [Tree.run] at h
              · simp [Tree.run] at h
            · simp [Tree.run] at h
          · -- onto a full slice
            rename_i b off len cap
            split at h
            · rename_i xs H1 hlc hsrc1
              simp only [Nat.beq_eq] at hlc
              subst hlc
              split at h
              · rename_i ys H2 hsrc2
                split at h
                · rename_i hxe hye
                  obtain ⟨hroom, h⟩ := Tree.run_need h
                  simp only [roomFor, Bool.and_eq_true, decide_eq_true_eq] at hroom
                  simp only [Tree.run, Option.some.injEq, Prod.mk.injEq] at h
                  obtain ⟨rfl, rfl⟩ := h
                  obtain ⟨Φ0, fl0, a0, cap0, t1, t2, t3, hsv, t5, t6, t7⟩ := srcRows_run hrel hs hsrc1
                  obtain ⟨Φ1, fl, a, cap1, q1, q2, q3, rfl, q5, q6, q7⟩ := srcRows_run t1 (hx.mono t2.toGro) hsrc2
                  simp only [Den] at hs
                  obtain ⟨g, hg, hsg⟩ := hs
                  rw [hsv] at hsg
                  simp only [Value.slice.injEq] at hsg
                  obtain ⟨rfl, hxl, rfl⟩ := hsg
                  have hm0 := t5.length
                  have hml := q5.length
                  have big : xs.length + ys.length ≤ maxLen := by simp only [maxLen]; omega
                  have hy0 : 0 < ys.length := by
                    cases ys with
                    | nil => cases hye
                    | cons y r => simp
                  cases a with
                  | none => obtain ⟨rfl, _⟩ := q6 rfl; simp at hy0
                  | some p =>
                    have hcells := t7 _ rfl
                    rw [hsv]
                    have hrun := run_append_grow (P := P) w t ty u i z hu hi hz ⟨g, off, none⟩ xs.length cap0 fl0 (by rw [hm0, his]) hcells p ys.length cap1 fl (by rw [hml, his]) (q7 p rfl) (by omega)
                      (by have := hroom.2; omega) (growslice_fits (by omega) (by rw [hib]; exact hroom.1))
                    generalize hcc : grownCap w (xs.length + ys.length) cap0 u = c2 at hrun
                    have hge : xs.length + ys.length ≤ c2 := by rw [← hcc]; exact grownCap_ge w _ _ _
                    have hcm : c2 ≤ maxLen := by rw [← hcc]; exact grownCap_le_maxLen w _ _ _ big
                    generalize hcd : (fl0.toArray ++ fl.toArray ++ Builtin.zeroCells z.cells (c2 - (xs.length + ys.length))) = cur2 at hrun
                    have hsz2 : cur2.size = c2 * e.size := by
                      rw [← hcd]
                      simp only [Array.size_append, List.size_toArray, size_zeroCells, hzs, hm0, hml, ← Nat.add_mul]
                      congr 1; omega
                    have he : Ext Φ1 w (w.drew.alloc (.cells cur2 u)) := ⟨rfl, rfl, rfl, by simp, fun k hk => by have := q1.phi k hk; exact Below.heap_alloc w.drew _ k this⟩
                    have gw : Gro ρ Φ1 w ρ Φ1 _ := Gro.world he
                    have htake : cur2.toList.take ((xs ++ ys).length * e.size) = fl0 ++ fl := by
                      rw [← hcd]
                      simp only [Array.toList_append, List.toList_toArray]
                      have : (fl0 ++ fl).length = (xs ++ ys).length * e.size := by simp only [List.length_append, hm0, hml, Nat.add_mul]
                      rw [← this]; exact List.take_left
                    have hadd := q1.add (w' := w.drew.alloc (.cells cur2 u)) (m := .row w.heap.size (xs ++ ys).length c2) (b := ⟨.rows e false (xs ++ ys), u, false⟩) rfl he (fun k c' m' q hk hm' hq => Below.heap_alloc w.drew _ q (q1.lt hk hm' hq)) (fun q hq => by
                      simp only [Nm.block, Option.some.injEq] at hq; subst hq
                      exact ⟨fun hp => by have := q1.phi _ hp; omega, fun k c' m' hk _ hm' e => by have := q1.lt hk hm' e; omega⟩) (by
                      refine BlkOK.row_ (by simpa using hge) hcm (by show (w.heap.push _)[w.heap.size]? = _; simp) hsz2 ?_
                      rw [htake]
                      exact (t5.mono (fun d v hd => DenD.mono he (fun q hq => hq) (DenD.mono (Ext.refl _ _) q2.phi hd))).append (q5.mono (fun d v hd => DenD.mono gw.ext gw.phi hd)))
                    have gn := q1.grow_named (.row w.heap.size (xs ++ ys).length c2) he (fun q hq => by simp only [Nm.block, Option.some.injEq] at hq; subst hq; exact .inl (Nat.le_refl _)) (fun k hk _ => Below.heap_alloc w.drew _ k hk)
                    exact ⟨_, _, named ρ H2.length (.row w.heap.size (xs ++ ys).length c2), Φ1, hrun, own_row (named_at ..) (by simp), hadd, (t2.trans q2).trans gn⟩
                · simp [Tree.run] at h
              · simp [Tree.run] at h
            · simp [Tree.run] at h
          · simp [Tree.run] at h
      · simp [Tree.run] at h
    · simp [Tree.run] at h
  · simp [Tree.run] at h
end
end Go.Sy
