/-
  append: as the model has it.
  No statement of the seat is proved here. Conditions: none.
-/
import Derived.Test.YtmokkonnilmdfaaY10
set_option linter.unusedSimpArgs false
set_option linter.unusedVariables false
namespace Go.Sy
open Go.RowKit

section
variable {P : Program} {T : Tab} [GoodTab P T] {ρ : Names} {H : Hp} {Φ : Nat → Prop} {w : World}

theorem oneCell_of (v : Value) : v.oneCell' = oneV v := by cases v <;> rfl

theorem denD_one {e : Sh} (he : e.isAgg = false) {d : D} {v : Value} (h : DenD Φ w e d v) : oneV v = true := by
  cases e with
  | agg cs => cases he
  | int k => simp only [DenD] at h; subst h; rfl
  | bool => simp only [DenD] at h; subst h; rfl
  | str => simp only [DenD] at h; subst h; rfl
  | list e => simp only [DenD] at h; obtain ⟨_, _, rfl, _⟩ := h; rfl

theorem row_one {e : Sh} (hf : e.fine = true) {d : D} {row : List Value} (hl : row.length = e.size) (h : DenD Φ w e d (packV e.isAgg row)) : ∀ u ∈ row, oneV u = true := by
  intro u hu
  cases he : e.isAgg with
  | false =>
    have h1 : e.size = 1 := by cases e with
      | agg cs => cases he
      | _ => rfl
    rw [h1] at hl
    obtain ⟨r, rfl⟩ := List.length_eq_one_iff.1 hl
    simp at hu; subst hu
    rw [he] at h
    exact denD_one he (by simpa [packV] using h)
  | true =>
    cases e with
    | agg cs =>
      simp only [Sh.isAgg, packV, DenD] at h
      obtain ⟨vs, h1, h2⟩ := h
      have : row = vs := by simpa using h1
      subst this
      obtain ⟨p1, p2⟩ := DenDs_iff.1 h2
      obtain ⟨i, hi⟩ := List.getElem?_of_mem hu
      have hil : i < cs.length := by have := (List.getElem?_eq_some_iff.1 hi).1; omega
      obtain ⟨v, hv, hd⟩ := p2 i cs[i] (List.getElem?_eq_getElem hil)
      rw [hi] at hv; simp only [Option.some.injEq] at hv; subst hv
      simp only [Sh.fine, List.all_eq_true, Bool.not_eq_true'] at hf
      exact denD_one (hf _ (List.getElem_mem hil)) hd
    | _ => all_goals cases he

theorem rows_one {e : Sh} (hf : e.fine = true) : ∀ {xs : List D} {fl : List Value}, RowsP (fun d v => DenD Φ w e d v) e.isAgg e.size xs fl → ∀ u ∈ fl, oneV u = true
  | [], fl, h, u, hu => by simp only [RowsP] at h; subst h; simp at hu
  | d :: r, fl, ⟨row, rest, h1, h2, h3, h4⟩, u, hu => by
    subst h1
    rcases List.mem_append.1 hu with hu | hu
    · exact row_one hf h2 h3 u hu
    · exact rows_one hf h4 u hu

theorem srcRows_run {e : Sh} {x : SV} {u : Value} {ys : List D} {H1 : Hp} (hrel : Rel ρ H Φ w) (hx : Den ρ Φ w x u) (h : srcRows H e x = some (ys, H1)) :
    ∃ Φ1 fl a cap, Rel ρ H1 Φ1 w ∧ Grow ρ Φ w ρ Φ1 w ∧ H1.length = H.length ∧ u = .slice a ys.length cap ∧ RowsP (fun d v => DenD Φ1 w e d v) e.isAgg e.size ys fl ∧ (a = none → ys = [] ∧ cap = 0) ∧
      ∀ p, a = some p → ∀ j v, fl[j]? = some v → w.cell? (p.add j) = some v := by
  unfold srcRows at h
  split at h
  · rename_i nl ys' H' hfr
    simp only [Option.some.injEq, Prod.mk.injEq] at h
    obtain ⟨rfl, hH⟩ := h
    obtain ⟨Φ1, r1, g1, d1, l1, _⟩ := freeze_run _ _ _ _ _ hfr Φ hrel u hx
    have gen : H1 = H' → ∃ Φ1 fl a cap, Rel ρ H1 Φ1 w ∧ Grow ρ Φ w ρ Φ1 w ∧ H1.length = H.length ∧ u = .slice a ys'.length cap ∧ RowsP (fun d v => DenD Φ1 w e d v) e.isAgg e.size ys' fl ∧ (a = none → ys' = [] ∧ cap = 0) ∧
        ∀ p, a = some p → ∀ j v, fl[j]? = some v → w.cell? (p.add j) = some v := by
      intro he
      subst he
      simp only [DenD, D.nl, D.xs] at d1
      obtain ⟨a, cap, rfl, q1, q2, q3, q4, q5⟩ := d1
      cases a with
      | none =>
        obtain ⟨rfl, rfl⟩ := q4 rfl
        exact ⟨Φ1, [], none, 0, r1, g1, l1, rfl, rfl, fun _ => ⟨rfl, rfl⟩, fun p hp => by cases hp⟩
      | some p =>
        by_cases hemp : ys' = []
        · subst hemp
          exact ⟨Φ1, [], some p, cap, r1, g1, l1, rfl, rfl, (fun hn => by cases hn), fun p' hp' j v hv => by simp at hv⟩
        obtain ⟨s1, s2, fl, s3, s4⟩ := q5 p rfl hemp
        have hp : p = ⟨p.block, p.off, none⟩ := by cases p; simp_all
        refine ⟨Φ1, fl, some p, cap, r1, g1, l1, rfl, s3, (fun hn => by cases hn), fun p' hp' j v hv => ?_⟩
        simp only [Option.some.injEq] at hp'; subst hp'
        rw [hp, addr_add]; exact s4 j v hv
    split at hH
    · rename_i b
      subst hH
      simp only [freeze] at hfr
      split at hfr
      · rename_i e' nl' xs' ty ro hb
        split at hfr
        · rename_i he
          have := Sh.beq_eq he; subst this
          simp only [Option.some.injEq, Prod.mk.injEq, D.l.injEq] at hfr
          obtain ⟨⟨rfl, rfl⟩, rfl⟩ := hfr
          obtain ⟨m, hm, hok⟩ := hrel.own _ _ hb
          simp only [BlkOK] at hok
          simp only [Den] at hx
          rcases hok with ⟨a, rfl, _, rfl⟩ | ⟨g, o, c, cur, rfl, h1, h2, h3, h4, h5, h6⟩
          · rcases hx with ⟨_, _, _, _, q1, _⟩ | ⟨a', q1, rfl⟩
            · rw [hm] at q1; cases q1
            · exact ⟨Φ, [], a', 0, hrel, Grow.refl .., rfl, rfl, rfl, fun _ => ⟨rfl, rfl⟩, fun p hp j v hv => by simp at hv⟩
          · rcases hx with ⟨_, _, _, _, q1, rfl⟩ | ⟨_, q1, _⟩
            · rw [hm] at q1; simp only [Option.some.injEq, Nm.row.injEq] at q1
              obtain ⟨rfl, rfl, rfl, rfl⟩ := q1
              refine ⟨Φ, _, some ⟨g, o, none⟩, c, hrel, Grow.refl .., rfl, rfl, h6, (fun hn => by cases hn), fun p hp j v hv => ?_⟩
              simp only [Option.some.injEq] at hp; subst hp
              rw [addr_add]
              exact own_rows_cell h4 j v hv
            · rw [hm] at q1; cases q1
        · cases hfr
      · cases hfr
    · rename_i b sz lo hi
      subst hH
      simp only [freeze] at hfr
      split at hfr
      · rename_i e' nl' xs' ty ro hb
        split at hfr
        · rename_i he
          simp only [Bool.and_eq_true, Nat.beq_eq] at he
          obtain ⟨he, hsz⟩ := he
          have := Sh.beq_eq he; subst this
          subst hsz
          simp only [Option.some.injEq, Prod.mk.injEq, D.l.injEq] at hfr
          obtain ⟨⟨rfl, rfl⟩, rfl⟩ := hfr
          obtain ⟨m, hm, hok⟩ := hrel.own _ _ hb
          simp only [BlkOK] at hok
          simp only [Den] at hx
          rcases hok with ⟨a, rfl, _, rfl⟩ | ⟨g, o, c, cur, rfl, h1, h2, h3, h4, h5, h6⟩
          · rcases hx with ⟨_, _, _, _, _, q1, _⟩ | ⟨a', q1, rfl, rfl, rfl⟩
            · rw [hm] at q1; cases q1
            · exact ⟨Φ, [], a', 0, hrel, Grow.refl .., rfl, rfl, rfl, fun _ => ⟨rfl, rfl⟩, fun p hp j v hv => by simp at hv⟩
          · rcases hx with ⟨_, _, _, _, off, q1, q2, q3, q4, rfl⟩ | ⟨_, q1, _⟩
            · rw [hm] at q1; simp only [Option.some.injEq, Nm.row.injEq] at q1
              obtain ⟨rfl, rfl, rfl, rfl⟩ := q1
              have hl : ((xs'.take hi).drop lo).length = hi - lo := by simp; omega
              have h6' := (h6.take hi).drop lo
              refine ⟨Φ, _, some ⟨g, off, none⟩, c - lo, hrel, Grow.refl .., rfl, by rw [hl], h6', (fun hn => by cases hn), fun p hp j v hv => ?_⟩
              simp only [Option.some.injEq] at hp; subst hp
              rw [addr_add]
              have hlc : lo < c := by
                rcases Nat.lt_or_ge lo c with h7 | h7
                · exact h7
                · have h8 := h6'.length
                  rw [hl, show hi - lo = 0 by omega, Nat.zero_mul] at h8
                  rw [List.length_eq_zero_iff.1 h8] at hv
                  simp at hv
              rw [q4 hlc]
              rw [List.getElem?_drop, List.getElem?_take] at hv
              split at hv
              · have := own_rows_cell h4 _ v hv
                rwa [← Nat.add_assoc] at this
              · cases hv
            · rw [hm] at q1; cases q1
        · cases hfr
      · cases hfr
    · exact gen hH.symm
  · cases h

theorem own_emp {b : Nat} {a : Option Addr} (h : ρ b = some (.emp a)) : Den ρ Φ w (.own b) (.slice a 0 0) := by simp only [Den]; exact .inr ⟨a, h, rfl⟩
theorem own_row {b g o n n' c : Nat} (h : ρ b = some (.row g o n c)) (hn : n' = n) : Den ρ Φ w (.own b) (.slice (some ⟨g, o, none⟩) n' c) := by subst hn; simp only [Den]; exact .inl ⟨_, _, _, _, h, rfl⟩
theorem BlkOK.emp_ {e : Sh} {u : TypeId} {r : Bool} {a : Option Addr} {nl : Bool} (h : nl = a.isNone) : BlkOK ρ Φ w (.emp a) ⟨.rows e nl [], u, r⟩ := Or.inl ⟨a, rfl, h, rfl⟩
theorem BlkOK.row_ {e : Sh} {xs : List D} {u : TypeId} {r : Bool} {g o c n : Nat} {cur : Array Value} (hn : n = xs.length) (h2 : xs.length ≤ c) (h3 : c ≤ maxLen) (h4 : w.heap[g]? = some (.cells cur u (0, 0))) (h5 : o + c * e.size ≤ cur.size)
    (h6 : RowsP (fun d v => DenD Φ w e d v) e.isAgg e.size xs ((cur.toList.drop o).take (xs.length * e.size))) : BlkOK ρ Φ w (.row g o n c) ⟨.rows e false xs, u, r⟩ := by subst hn; exact Or.inr ⟨g, o, c, cur, rfl, rfl, h2, h3, h4, h5, h6⟩

theorem zero_of {u : TypeId} {zl : List SV} (hzl : zeroL T u = some zl) {n by_ : Nat} (hby : bytesT T u = some by_) (hs : sizeT T u = some n) (hz : zl.length = n) : ∃ i z, P.info? u = some i ∧ i.zero = some z ∧ i.size = n ∧ i.bytes = by_ ∧ z.cells.size = n := by
  unfold zeroL at hzl
  unfold bytesT at hby
  unfold sizeT at hs
  cases hr : T.row u with
  | none => simp [hr] at hs
  | some rr =>
    simp only [hr, Option.some.injEq] at hzl hby hs
    obtain ⟨_, ⟨i, hi, h2, h3, h4⟩, _⟩ := GoodTab.row (P := P) u rr hr
    obtain ⟨z, hz1, hz2⟩ := h4 zl hzl
    refine ⟨i, z, hi, hz1, by rw [h2, hs], by rw [h3, hby], ?_⟩
    rw [← hz, ← hz2]; simp

theorem grown_ext {w' : World} {row : Option Nat} (hphi : ∀ k, Φ k → k < w.heap.size) (hg : w.grownBy w' row) (hr : ∀ g, row = some g → ¬ Φ g) : Ext Φ w w' :=
  ⟨hg.os, hg.tape, hg.output, hg.size, fun k hk => hg.block k (hphi k hk) (fun e => hr k e.symm hk)⟩

theorem run_append_room_at (w : World) (t ty e : TypeId) (i : TypeInfo) (ht : P.underlying t = some (.slice e)) (hi : P.info? e = some i)
    (g off sLen sCap : Nat) (cur : Array Value) (hg : w.heap[g]? = some (.cells cur e (0, 0)))
    (a : Addr) (m c : Nat) (news : List Value) (hl : news.length = m * i.size) (hnews : ∀ j u, news[j]? = some u → w.cell? (a.add j) = some u) (h1 : ∀ u ∈ news, u.oneCell' = true)
    (hroom : sLen + m ≤ sCap) (hfit : off + sLen * i.size + news.length ≤ cur.size) :
    (Builtin.append_ #[t, t] ty #[.slice (some ⟨g, off, none⟩) sLen sCap, .slice (some a) m c]).run P w =
      .ok (.slice (some ⟨g, off, none⟩) (sLen + m) sCap) (w.setRow g (cur.toList.take (off + sLen * i.size) ++ news ++ cur.toList.drop (off + sLen * i.size + news.length)).toArray) := by
  have hf := run_firstCells_some (P := P) w i.size m a m c news hl hnews
  have hst := run_storeCells_at P g (off + sLen * i.size) e news 0 cur w hg (by simpa using hfit) h1
  simp only [Nat.add_zero] at hst
  simp [Builtin.append_, run_underlying ht, sizeOf, typeInfo, hi, Builtin.lenOf, hroom, hf, addr_add, hst]
/-- Nothing is appended. -/
theorem run_append_nought (w : World) (t ty e : TypeId) (i : TypeInfo) (ht : P.underlying t = some (.slice e)) (hi : P.info? e = some i) (a p : Option Addr) (n c c' : Nat) (hnc : n ≤ c) :
    (Builtin.append_ #[t, t] ty #[.slice a n c, .slice p 0 c']).run P w = .ok (.slice a n c) w := by
  cases a <;> cases p <;> simp [Builtin.append_, run_underlying ht, sizeOf, typeInfo, hi, Builtin.lenOf, Builtin.firstCells, hnc, storeCells, loadCells, loadCellsFrom]
/-- Onto a list without room. -/
theorem run_append_first (w : World) (t ty e : TypeId) (i : TypeInfo) (z : Value) (ht : P.underlying t = some (.slice e)) (hi : P.info? e = some i) (hz : i.zero = some z) (b : Option Addr)
    (a : Addr) (n c : Nat) (news : List Value) (hl : news.length = n * i.size) (hnews : ∀ j v, news[j]? = some v → w.cell? (a.add j) = some v)
    (hn : 0 < n) (h63 : ((n : Nat) : Int) ≤ 9223372036854775807) (hfit : Builtin.nextslicecap n 0 * i.bytes ≤ 281474976710656) :
    (Builtin.append_ #[t, t] ty #[.slice b 0 0, .slice (some a) n c]).run P w =
      .ok (.slice (some ⟨w.heap.size, 0, none⟩) n (grownCap w n 0 e)) (w.drew.alloc (.cells (news.toArray ++ Builtin.zeroCells z.cells (grownCap w n 0 e - n)) e)) := by
  cases b with
  | some b =>
    have := run_append_grow (P := P) w t ty e i z ht hi hz b 0 0 [] (by simp) (by simp) a n c news hl hnews (by omega) (by simpa using h63) (by simpa using hfit)
    simpa using this
  | none =>
    have hn'' : n ≠ 0 := by omega
    have h63' : ¬ (9223372036854775807 < (n : Int)) := by omega
    have h48' : ¬ (281474976710656 < Builtin.nextslicecap n 0 * i.bytes) := by omega
    have hf := run_firstCells_some (P := P) w.drew i.size n a n c news hl (by simpa using hnews)
    simp only [Builtin.firstCells] at hf
    simp [Builtin.append_, run_underlying ht, sizeOf, typeInfo, zeroValue, hi, hz, Builtin.lenOf, hn'', h63', h48', Question.forced, hf, Builtin.firstCells, newRow, grownCap]
/-- What is appended. -/
structure Src (Φ : Nat → Prop) (w : World) (e : Sh) (ys : List D) (a : Option Addr) (fl : List Value) : Prop where
  rows : RowsP (fun d v => DenD Φ w e d v) e.isAgg e.size ys fl
  none_ : a = none → ys = []
  cells : ∀ p, a = some p → ∀ j v, fl[j]? = some v → w.cell? (p.add j) = some v
/-- What is known of the rows' type. -/
structure RowTy (P : Program) (t u : TypeId) (e : Sh) (i : TypeInfo) (z : Value) : Prop where
  und : P.underlying t = some (.slice u)
  info : P.info? u = some i
  zero : i.zero = some z
  size : i.size = e.size
  zsize : z.cells.size = e.size
  pos : 0 < e.size
  fine : e.fine = true

theorem append_empty {e : Sh} {ys : List D} {t ty u : TypeId} {i : TypeInfo} {z : Value} {H2 : Hp} {fl : List Value} {a b : Option Addr} {cap : Nat} {nl : Bool}
    (qk : Rel ρ H2 Φ w) (ht : RowTy P t u e i z) (hs : Src Φ w e ys a fl) (hnl : nl = b.isNone) (room1 : ys.length * i.bytes ≤ 140737488355328) (room2 : ys.length ≤ 4611686018427387904) :
    ∃ r0 w' m, (Builtin.append_ #[t, t] ty #[.slice b 0 0, .slice a ys.length cap]).run P w = .ok r0 w' ∧ Den (named ρ H2.length m) Φ w' (.own H2.length) r0 ∧
      Rel (named ρ H2.length m) (H2 ++ [some ⟨.rows e (nl && ys.isEmpty) ys, u, false⟩]) Φ w' ∧ Grow ρ Φ w (named ρ H2.length m) Φ w' := by
  by_cases hy : ys = []
  · subst hy
    refine ⟨_, w, .emp b, run_append_nought w t ty u i ht.und ht.info b a 0 0 cap (Nat.le_refl _), own_emp (named_at ..), ?_, qk.grow_named (.emp b) (Ext.refl _ _) (fun q hq => by cases hq) (fun _ _ _ => rfl)⟩
    refine qk.add (w' := w) (m := .emp b) rfl (Ext.refl _ _) (fun _ _ _ _ _ _ _ => rfl) (fun q hq => by cases hq) (BlkOK.emp_ (by simp [hnl]))
  · cases a with
    | none => exact absurd (hs.none_ rfl) hy
    | some p =>
      have hy0 : 0 < ys.length := List.length_pos_iff.2 hy
      have hye : ys.isEmpty = false := by cases ys <;> simp_all
      have hml := hs.rows.length
      have big : ys.length ≤ maxLen := by simp only [maxLen]; omega
      have hrun := run_append_first w t ty u i z ht.und ht.info ht.zero b p ys.length cap fl (by rw [hml, ht.size]) (hs.cells p rfl) hy0 (by omega) (by
        have := growslice_fits (need := ys.length) (old := 0) (bytes := i.bytes) (by omega) (by simpa using room1)
        simpa using this)
      generalize hcc : grownCap w ys.length 0 u = c2 at hrun
      have hge : ys.length ≤ c2 := by rw [← hcc]; exact grownCap_ge w _ _ _
      have hcm : c2 ≤ maxLen := by rw [← hcc]; exact grownCap_le_maxLen w _ _ _ big
      generalize hcd : (fl.toArray ++ Builtin.zeroCells z.cells (c2 - ys.length)) = cur2 at hrun
      have hsz2 : cur2.size = 0 + c2 * e.size := by
        rw [← hcd]
        simp only [Array.size_append, List.size_toArray, size_zeroCells, ht.zsize, hml, ← Nat.add_mul, Nat.zero_add]
        congr 1; omega
      have he : Ext Φ w (w.drew.alloc (.cells cur2 u)) := ⟨rfl, rfl, rfl, by simp, fun k hk => by have := qk.phi k hk; exact Below.heap_alloc w.drew _ k this⟩
      have gw : Gro ρ Φ w ρ Φ _ := Gro.world he
      have htake : (cur2.toList.drop 0).take (ys.length * e.size) = fl := by
        rw [← hcd, List.drop_zero]
        simp only [Array.toList_append, List.toList_toArray]
        rw [← hml]; exact List.take_left
      refine ⟨_, _, .row w.heap.size 0 ys.length c2, hrun, own_row (named_at ..) rfl, ?_, qk.grow_named _ he (fun q hq => by simp only [Nm.block, Option.some.injEq] at hq; subst hq; exact .inl (Nat.le_refl _)) (fun k hk _ => Below.heap_alloc w.drew _ k hk)⟩
      rw [hye, Bool.and_false]
      refine qk.add (m := .row w.heap.size 0 ys.length c2) rfl he (fun k c' m' q hk hm' hq => Below.heap_alloc w.drew _ q (qk.lt hk hm' hq)) (fun q hq => by
        simp only [Nm.block, Option.some.injEq] at hq; subst hq
        exact ⟨fun hp => by have := qk.phi _ hp; omega, fun k c' m' hk _ hm' e => by have := qk.lt hk hm' e; omega⟩) ?_
      refine BlkOK.row_ rfl hge hcm (by show (w.heap.push _)[w.heap.size]? = _; simp) (Nat.le_of_eq hsz2.symm) ?_
      rw [htake]
      exact hs.rows.mono (fun d v hd => DenD.mono gw.ext gw.phi hd)

theorem view_cells {l : List Value} {o lo hi n sz : Nat} (h1 : lo ≤ hi) (h2 : hi ≤ n) : ((((l.drop o).take (n * sz)).take (hi * sz)).drop (lo * sz)) = (l.drop (o + lo * sz)).take ((hi - lo) * sz) := by
  have h3 : hi * sz ≤ n * sz := Nat.mul_le_mul_right _ h2
  rw [List.take_take, Nat.min_eq_left h3, List.drop_take, List.drop_drop, Nat.sub_mul]

theorem append_view {e : Sh} {xs ys : List D} {t ty u : TypeId} {i : TypeInfo} {z : Value} {H1 : Hp} {fl : List Value} {a : Option Addr} {cap b g o c lo hi off : Nat} {cur : Array Value} {nl : Bool}
    (q1 : Rel ρ H1 Φ w) (ht : RowTy P t u e i z) (hs : Src Φ w e ys a fl) (hb : hget H1 b = some ⟨.rows e nl xs, u, false⟩) (hm : ρ b = some (.row g o xs.length c))
    (h2 : xs.length ≤ c) (h3 : c ≤ maxLen) (h4 : w.heap[g]? = some (.cells cur u (0, 0))) (h5 : o + c * e.size ≤ cur.size) (h6 : RowsP (fun d v => DenD Φ w e d v) e.isAgg e.size xs ((cur.toList.drop o).take (xs.length * e.size)))
    (l1 : lo ≤ hi) (l2 : hi ≤ xs.length) (hoff : lo < c → off = o + lo * e.size)
    (room1 : (hi - lo + ys.length) * i.bytes ≤ 140737488355328) (room2 : hi - lo + ys.length ≤ 4611686018427387904) :
    ∃ r0 w' m, (Builtin.append_ #[t, t] ty #[.slice (some ⟨g, off, none⟩) (hi - lo) (c - lo), .slice a ys.length cap]).run P w = .ok r0 w' ∧ Den (named ρ H1.length m) Φ w' (.own H1.length) r0 ∧
      Rel (named ρ H1.length m) (H1.set b none ++ [some ⟨.rows e false ((xs.take hi).drop lo ++ ys), u, false⟩]) Φ w' ∧ Grow ρ Φ w (named ρ H1.length m) Φ w' := by
  have hblt := hget_lt hb
  have qk := q1.kill b
  have hlen : H1.length = (H1.set b none).length := by simp
  have hgk : ∀ k c, hget (H1.set b none) k = some c → k ≠ b ∧ hget H1 k = some c := by
    intro k c hk
    rw [hget_set hblt] at hk
    split at hk
    · cases hk
    · rename_i hne; exact ⟨fun e => hne e.symm, hk⟩
  have hap := q1.apart _ _ _ _ hb hm rfl rfl
  have hglt := q1.lt hb hm rfl
  have hfree : ∀ k c m', hget (H1.set b none) k = some c → c.ro = false → ρ k = some m' → m'.block ≠ some g := by
    intro k c' m' hk hro hm' e
    obtain ⟨hne, hk'⟩ := hgk k c' hk
    exact hne (q1.inj k b c' _ m' _ g hk' hb hro rfl hm' hm e rfl)
  have hold1 : ∀ k c m q, hget (H1.set b none) k = some c → ρ k = some m → m.block = some q → q ≠ g := by
    intro k c' m' q hk hm' hq e
    subst e
    obtain ⟨hne, hk'⟩ := hgk k c' hk
    cases hro : c'.ro with
    | false => exact hfree k c' m' hk hro hm' hq
    | true => exact hap (q1.kept k c' m' q hk' hm' hq hro)
  have hXl : ((xs.take hi).drop lo).length = hi - lo := by simp; omega
  have h6v : RowsP (fun d v => DenD Φ w e d v) e.isAgg e.size ((xs.take hi).drop lo) ((cur.toList.drop (o + lo * e.size)).take ((hi - lo) * e.size)) := by
    have := (h6.take hi).drop lo
    rwa [view_cells l1 l2] at this
  have h6l := h6v.length
  rw [hXl] at h6l
  have hcsz : c * e.size = lo * e.size + (c - lo) * e.size := by rw [← Nat.add_mul]; congr 1; omega
  by_cases hy : ys = []
  · subst hy
    have hrun := run_append_nought (P := P) w t ty u i ht.und ht.info (some ⟨g, off, none⟩) a (hi - lo) (c - lo) cap (by omega)
    rw [List.append_nil]
    rcases Nat.lt_or_ge lo c with hc | hc
    · have e1 := hoff hc
      refine ⟨_, w, .row g off (hi - lo) (c - lo), hrun, own_row (named_at ..) rfl, ?_, ?_⟩
      · rw [hlen]
        refine qk.add (w' := w) (m := .row g off (hi - lo) (c - lo)) rfl (Ext.refl _ _) (fun _ _ _ _ _ _ _ => rfl) (fun q hq => by
          simp only [Nm.block, Option.some.injEq] at hq; subst hq; exact ⟨hap, hfree⟩) ?_
        refine BlkOK.row_ hXl.symm (by omega) (by omega) h4 (by rw [e1]; rw [hcsz] at h5; omega) ?_
        rw [hXl, e1]
        exact h6v.mono (fun d v hd => DenD.mono (Ext.refl _ _) (fun _ h => h) hd)
      · rw [hlen]
        exact qk.grow_named (w' := w) _ (Ext.refl _ _) (fun q hq => .inr ⟨b, _, hm, hq⟩) (fun _ _ _ => rfl)
    · have e0 : hi - lo = 0 := by omega
      have e2 : (xs.take hi).drop lo = [] := List.length_eq_zero_iff.1 (by rw [hXl, e0])
      have e3 : c - lo = 0 := by omega
      rw [e0, e3] at hrun
      rw [e0, e3, e2]
      refine ⟨_, w, .emp (some ⟨g, off, none⟩), hrun, own_emp (named_at ..), ?_, ?_⟩
      · rw [hlen]
        exact qk.add (w' := w) (m := .emp (some ⟨g, off, none⟩)) rfl (Ext.refl _ _) (fun _ _ _ _ _ _ _ => rfl) (fun q hq => by cases hq) (BlkOK.emp_ rfl)
      · rw [hlen]
        exact qk.grow_named (w' := w) _ (Ext.refl _ _) (fun q hq => by cases hq) (fun _ _ _ => rfl)
  · cases a with
    | none => exact absurd (hs.none_ rfl) hy
    | some p =>
      have hy0 : 0 < ys.length := List.length_pos_iff.2 hy
      have hml := hs.rows.length
      have big : hi - lo + ys.length ≤ maxLen := by simp only [maxLen]; omega
      have hone : ∀ v ∈ fl, v.oneCell' = true := fun v hv => by rw [oneCell_of]; exact rows_one ht.fine hs.rows v hv
      by_cases hfit : hi - lo + ys.length ≤ c - lo
      · -- in its place
        have e1 := hoff (by omega)
        have hcs : off + (hi - lo) * e.size + fl.length ≤ cur.size := by
          have : (hi - lo + ys.length) * e.size ≤ (c - lo) * e.size := Nat.mul_le_mul_right _ hfit
          rw [Nat.add_mul] at this
          rw [hcsz] at h5; rw [hml, e1]; omega
        have hrun := run_append_room_at (P := P) w t ty u i ht.und ht.info g off (hi - lo) (c - lo) cur h4 p ys.length cap fl (by rw [hml, ht.size]) (hs.cells p rfl) hone hfit (by rw [ht.size]; exact hcs)
        rw [ht.size] at hrun
        generalize hcd : (cur.toList.take (off + (hi - lo) * e.size) ++ fl ++ cur.toList.drop (off + (hi - lo) * e.size + fl.length)).toArray = cur2 at hrun
        have hcd' : cur2.toList = spliceV cur.toList (off + (hi - lo) * e.size) fl := by rw [← hcd]; rfl
        have hsz2 : cur2.size = cur.size := by rw [← hcd]; simp; omega
        have he : Ext Φ w (w.setRow g cur2) := ⟨rfl, rfl, rfl, by simp [World.setRow], fun k hk => setRow_other w g k cur2 (fun e => hap (e ▸ hk))⟩
        have gw : Gro ρ Φ w ρ Φ _ := Gro.world he
        have htake : (cur2.toList.drop off).take (((xs.take hi).drop lo ++ ys).length * e.size) = (cur.toList.drop off).take ((hi - lo) * e.size) ++ fl := by
          rw [hcd', drop_spliceV (by simp; omega), List.length_append, hXl]
          unfold spliceV
          have : ((cur.toList.drop off).take ((hi - lo) * e.size) ++ fl).length = (hi - lo + ys.length) * e.size := by rw [List.length_append, hml, Nat.add_mul, e1, h6l]
          rw [← this]; exact List.take_left
        refine ⟨_, _, .row g off (hi - lo + ys.length) (c - lo), hrun, own_row (named_at ..) rfl, ?_, ?_⟩
        · rw [hlen]
          refine qk.add (w' := w.setRow g cur2) (m := .row g off (hi - lo + ys.length) (c - lo)) rfl he (fun k c' m' q hk hm' hq => setRow_other w g q cur2 (hold1 k c' m' q hk hm' hq)) (fun q hq => by
            simp only [Nm.block, Option.some.injEq] at hq; subst hq; exact ⟨hap, hfree⟩) ?_
          refine BlkOK.row_ (by rw [List.length_append, hXl]) (by rw [List.length_append, hXl]; exact hfit) (by omega) (setRow_heap w g cur cur2 u _ h4) (by rw [hsz2, e1]; rw [hcsz] at h5; omega) ?_
          rw [htake, e1]
          exact (h6v.mono (fun d v hd => DenD.mono gw.ext gw.phi hd)).append (hs.rows.mono (fun d v hd => DenD.mono gw.ext gw.phi hd))
        · rw [hlen]
          exact qk.grow_named _ he (fun q hq => .inr ⟨b, _, hm, hq⟩) (fun k _ hn => setRow_other w g k cur2 (fun e => hn ⟨b, _, hm, by rw [e]; rfl⟩))
      · -- into a new block
        have hcells : ∀ j v, ((cur.toList.drop (o + lo * e.size)).take ((hi - lo) * e.size))[j]? = some v → w.cell? ((⟨g, off, none⟩ : Addr).add j) = some v := fun j v hv => by
          rw [addr_add]
          have hc : lo < c := by
            rcases Nat.lt_or_ge lo c with h7 | h7
            · exact h7
            · rw [show hi - lo = 0 by omega, Nat.zero_mul, List.take_zero] at hv
              simp at hv
          rw [hoff hc]
          exact own_rows_cell h4 j v hv
        have hrun := run_append_grow (P := P) w t ty u i z ht.und ht.info ht.zero ⟨g, off, none⟩ (hi - lo) (c - lo) ((cur.toList.drop (o + lo * e.size)).take ((hi - lo) * e.size)) (by rw [h6l, ht.size]) hcells p ys.length cap fl (by rw [hml, ht.size]) (hs.cells p rfl) (by omega)
          (by omega) (growslice_fits (by omega) room1)
        generalize hcc : grownCap w (hi - lo + ys.length) (c - lo) u = c2 at hrun
        have hge : hi - lo + ys.length ≤ c2 := by rw [← hcc]; exact grownCap_ge w _ _ _
        have hcm : c2 ≤ maxLen := by rw [← hcc]; exact grownCap_le_maxLen w _ _ _ big
        generalize hcd : (((cur.toList.drop (o + lo * e.size)).take ((hi - lo) * e.size)).toArray ++ fl.toArray ++ Builtin.zeroCells z.cells (c2 - (hi - lo + ys.length))) = cur2 at hrun
        have hsz2 : cur2.size = 0 + c2 * e.size := by
          rw [← hcd]
          simp only [Array.size_append, List.size_toArray, size_zeroCells, ht.zsize, h6l, hml, ← Nat.add_mul, Nat.zero_add]
          congr 1; omega
        have he : Ext Φ w (w.drew.alloc (.cells cur2 u)) := ⟨rfl, rfl, rfl, by simp, fun k hk => by have := q1.phi k hk; exact Below.heap_alloc w.drew _ k this⟩
        have gw : Gro ρ Φ w ρ Φ _ := Gro.world he
        have htake : (cur2.toList.drop 0).take (((xs.take hi).drop lo ++ ys).length * e.size) = (cur.toList.drop (o + lo * e.size)).take ((hi - lo) * e.size) ++ fl := by
          rw [← hcd, List.drop_zero]
          simp only [Array.toList_append, List.toList_toArray]
          have : ((cur.toList.drop (o + lo * e.size)).take ((hi - lo) * e.size) ++ fl).length = ((xs.take hi).drop lo ++ ys).length * e.size := by rw [List.length_append, List.length_append, hXl, h6l, hml, Nat.add_mul]
          rw [← this]; exact List.take_left
        refine ⟨_, _, .row w.heap.size 0 (hi - lo + ys.length) c2, hrun, own_row (named_at ..) rfl, ?_, ?_⟩
        · rw [hlen]
          refine qk.add (m := .row w.heap.size 0 (hi - lo + ys.length) c2) rfl he (fun k c' m' q hk hm' hq => Below.heap_alloc w.drew _ q (qk.lt hk hm' hq)) (fun q hq => by
            simp only [Nm.block, Option.some.injEq] at hq; subst hq
            exact ⟨fun hp => by have := q1.phi _ hp; omega, fun k c' m' hk _ hm' e => by have := qk.lt hk hm' e; omega⟩) ?_
          refine BlkOK.row_ (by rw [List.length_append, hXl]) (by rw [List.length_append, hXl]; exact hge) hcm (by show (w.heap.push _)[w.heap.size]? = _; simp) (Nat.le_of_eq hsz2.symm) ?_
          rw [htake]
          exact (h6v.mono (fun d v hd => DenD.mono gw.ext gw.phi hd)).append (hs.rows.mono (fun d v hd => DenD.mono gw.ext gw.phi hd))
        · rw [hlen]
          exact qk.grow_named _ he (fun q hq => by simp only [Nm.block, Option.some.injEq] at hq; subst hq; exact .inl (Nat.le_refl _)) (fun k hk _ => Below.heap_alloc w.drew _ k hk)

theorem append_cut {e : Sh} {xs ys : List D} {t ty u : TypeId} {i : TypeInfo} {z : Value} {H1 : Hp} {fl : List Value} {a : Option Addr} {cap b g o c lo hi off : Nat} {cur : Array Value} {nl : Bool}
    (q1 : Rel ρ H1 Φ w) (ht : RowTy P t u e i z) (hs : Src Φ w e ys a fl) (hb : hget H1 b = some ⟨.rows e nl xs, u, false⟩) (hm : ρ b = some (.row g o xs.length c))
    (h2 : xs.length ≤ c) (h3 : c ≤ maxLen) (h4 : w.heap[g]? = some (.cells cur u (0, 0))) (h5 : o + c * e.size ≤ cur.size) (h6 : RowsP (fun d v => DenD Φ w e d v) e.isAgg e.size xs ((cur.toList.drop o).take (xs.length * e.size)))
    (l1 : lo ≤ hi) (l2 : hi ≤ xs.length) (hoff : lo < hi → off = o + lo * e.size)
    (room1 : (hi - lo + ys.length) * i.bytes ≤ 140737488355328) (room2 : hi - lo + ys.length ≤ 4611686018427387904) :
    ∃ r0 w' m, (Builtin.append_ #[t, t] ty #[.slice (some ⟨g, off, none⟩) (hi - lo) (hi - lo), .slice a ys.length cap]).run P w = .ok r0 w' ∧ Den (named ρ H1.length m) Φ w' (.own H1.length) r0 ∧
      Rel (named ρ H1.length m) (H1.set b none ++ [some ⟨.rows e false ((xs.take hi).drop lo ++ ys), u, false⟩]) Φ w' ∧ Grow ρ Φ w (named ρ H1.length m) Φ w' := by
  have hblt := hget_lt hb
  have qk := q1.kill b
  have hlen : H1.length = (H1.set b none).length := by simp
  have hgk : ∀ k c, hget (H1.set b none) k = some c → k ≠ b ∧ hget H1 k = some c := by
    intro k c hk
    rw [hget_set hblt] at hk
    split at hk
    · cases hk
    · rename_i hne; exact ⟨fun e => hne e.symm, hk⟩
  have hap := q1.apart _ _ _ _ hb hm rfl rfl
  have hglt := q1.lt hb hm rfl
  have hfree : ∀ k c m', hget (H1.set b none) k = some c → c.ro = false → ρ k = some m' → m'.block ≠ some g := by
    intro k c' m' hk hro hm' e
    obtain ⟨hne, hk'⟩ := hgk k c' hk
    exact hne (q1.inj k b c' _ m' _ g hk' hb hro rfl hm' hm e rfl)
  have hold1 : ∀ k c m q, hget (H1.set b none) k = some c → ρ k = some m → m.block = some q → q ≠ g := by
    intro k c' m' q hk hm' hq e
    subst e
    obtain ⟨hne, hk'⟩ := hgk k c' hk
    cases hro : c'.ro with
    | false => exact hfree k c' m' hk hro hm' hq
    | true => exact hap (q1.kept k c' m' q hk' hm' hq hro)
  have hXl : ((xs.take hi).drop lo).length = hi - lo := by simp; omega
  have h6v : RowsP (fun d v => DenD Φ w e d v) e.isAgg e.size ((xs.take hi).drop lo) ((cur.toList.drop (o + lo * e.size)).take ((hi - lo) * e.size)) := by
    have := (h6.take hi).drop lo
    rwa [view_cells l1 l2] at this
  have h6l := h6v.length
  rw [hXl] at h6l
  have hcsz : c * e.size = lo * e.size + (c - lo) * e.size := by rw [← Nat.add_mul]; congr 1; omega
  by_cases hy : ys = []
  · subst hy
    have hrun := run_append_nought (P := P) w t ty u i ht.und ht.info (some ⟨g, off, none⟩) a (hi - lo) (hi - lo) cap (by omega)
    rw [List.append_nil]
    rcases Nat.lt_or_ge lo hi with hc | hc
    · have e1 := hoff hc
      have hmm : (hi - lo) * e.size ≤ (c - lo) * e.size := Nat.mul_le_mul_right _ (by omega)
      have hfit2 : off + (hi - lo) * e.size ≤ cur.size := by rw [e1]; rw [hcsz] at h5; omega
      refine ⟨_, w, .row g off (hi - lo) (hi - lo), hrun, own_row (named_at ..) rfl, ?_, ?_⟩
      · rw [hlen]
        refine qk.add (w' := w) (m := .row g off (hi - lo) (hi - lo)) rfl (Ext.refl _ _) (fun _ _ _ _ _ _ _ => rfl) (fun q hq => by
          simp only [Nm.block, Option.some.injEq] at hq; subst hq; exact ⟨hap, hfree⟩) ?_
        refine BlkOK.row_ hXl.symm (by omega) (by omega) h4 hfit2 ?_
        rw [hXl, e1]
        exact h6v.mono (fun d v hd => DenD.mono (Ext.refl _ _) (fun _ h => h) hd)
      · rw [hlen]
        exact qk.grow_named (w' := w) _ (Ext.refl _ _) (fun q hq => .inr ⟨b, _, hm, hq⟩) (fun _ _ _ => rfl)
    · have e0 : hi - lo = 0 := by omega
      have e2 : (xs.take hi).drop lo = [] := List.length_eq_zero_iff.1 (by rw [hXl, e0])
      rw [e0] at hrun
      rw [e0, e2]
      refine ⟨_, w, .emp (some ⟨g, off, none⟩), hrun, own_emp (named_at ..), ?_, ?_⟩
      · rw [hlen]
        exact qk.add (w' := w) (m := .emp (some ⟨g, off, none⟩)) rfl (Ext.refl _ _) (fun _ _ _ _ _ _ _ => rfl) (fun q hq => by cases hq) (BlkOK.emp_ rfl)
      · rw [hlen]
        exact qk.grow_named (w' := w) _ (Ext.refl _ _) (fun q hq => by cases hq) (fun _ _ _ => rfl)
  · cases a with
    | none => exact absurd (hs.none_ rfl) hy
    | some p =>
      have hy0 : 0 < ys.length := List.length_pos_iff.2 hy
      have hml := hs.rows.length
      have big : hi - lo + ys.length ≤ maxLen := by simp only [maxLen]; omega
      have hone : ∀ v ∈ fl, v.oneCell' = true := fun v hv => by rw [oneCell_of]; exact rows_one ht.fine hs.rows v hv
      have hcells : ∀ j v, ((cur.toList.drop (o + lo * e.size)).take ((hi - lo) * e.size))[j]? = some v → w.cell? ((⟨g, off, none⟩ : Addr).add j) = some v := fun j v hv => by
        rw [addr_add]
        have hc : lo < hi := by
          rcases Nat.lt_or_ge lo hi with h7 | h7
          · exact h7
          · rw [show hi - lo = 0 by omega, Nat.zero_mul, List.take_zero] at hv
            simp at hv
        rw [hoff hc]
        exact own_rows_cell h4 j v hv
      have hrun := run_append_grow (P := P) w t ty u i z ht.und ht.info ht.zero ⟨g, off, none⟩ (hi - lo) (hi - lo) ((cur.toList.drop (o + lo * e.size)).take ((hi - lo) * e.size)) (by rw [h6l, ht.size]) hcells p ys.length cap fl (by rw [hml, ht.size]) (hs.cells p rfl) (by omega)
        (by omega) (growslice_fits (by omega) room1)
      generalize hcc : grownCap w (hi - lo + ys.length) (hi - lo) u = c2 at hrun
      have hge : hi - lo + ys.length ≤ c2 := by rw [← hcc]; exact grownCap_ge w _ _ _
      have hcm : c2 ≤ maxLen := by rw [← hcc]; exact grownCap_le_maxLen w _ _ _ big
      generalize hcd : (((cur.toList.drop (o + lo * e.size)).take ((hi - lo) * e.size)).toArray ++ fl.toArray ++ Builtin.zeroCells z.cells (c2 - (hi - lo + ys.length))) = cur2 at hrun
      have hsz2 : cur2.size = 0 + c2 * e.size := by
        rw [← hcd]
        simp only [Array.size_append, List.size_toArray, size_zeroCells, ht.zsize, h6l, hml, ← Nat.add_mul, Nat.zero_add]
        congr 1; omega
      have he : Ext Φ w (w.drew.alloc (.cells cur2 u)) := ⟨rfl, rfl, rfl, by simp, fun k hk => by have := q1.phi k hk; exact Below.heap_alloc w.drew _ k this⟩
      have gw : Gro ρ Φ w ρ Φ _ := Gro.world he
      have htake : (cur2.toList.drop 0).take (((xs.take hi).drop lo ++ ys).length * e.size) = (cur.toList.drop (o + lo * e.size)).take ((hi - lo) * e.size) ++ fl := by
        rw [← hcd, List.drop_zero]
        simp only [Array.toList_append, List.toList_toArray]
        have : ((cur.toList.drop (o + lo * e.size)).take ((hi - lo) * e.size) ++ fl).length = ((xs.take hi).drop lo ++ ys).length * e.size := by rw [List.length_append, List.length_append, hXl, h6l, hml, Nat.add_mul]
        rw [← this]; exact List.take_left
      refine ⟨_, _, .row w.heap.size 0 (hi - lo + ys.length) c2, hrun, own_row (named_at ..) rfl, ?_, ?_⟩
      · rw [hlen]
        refine qk.add (m := .row w.heap.size 0 (hi - lo + ys.length) c2) rfl he (fun k c' m' q hk hm' hq => Below.heap_alloc w.drew _ q (qk.lt hk hm' hq)) (fun q hq => by
          simp only [Nm.block, Option.some.injEq] at hq; subst hq
          exact ⟨fun hp => by have := q1.phi _ hp; omega, fun k c' m' hk _ hm' e => by have := qk.lt hk hm' e; omega⟩) ?_
        refine BlkOK.row_ (by rw [List.length_append, hXl]) (by rw [List.length_append, hXl]; exact hge) hcm (by show (w.heap.push _)[w.heap.size]? = _; simp) (Nat.le_of_eq hsz2.symm) ?_
        rw [htake]
        exact (h6v.mono (fun d v hd => DenD.mono gw.ext gw.phi hd)).append (hs.rows.mono (fun d v hd => DenD.mono gw.ext gw.phi hd))
      · rw [hlen]
        exact qk.grow_named _ he (fun q hq => by simp only [Nm.block, Option.some.injEq] at hq; subst hq; exact .inl (Nat.le_refl _)) (fun k hk _ => Below.heap_alloc w.drew _ k hk)

theorem rows_splice {R : D → Value → Prop} {ag : Bool} {sz : Nat} {xs ys : List D} {fl0 fl : List Value} (h : RowsP R ag sz xs fl0) (h' : RowsP R ag sz ys fl) (k : Nat) : RowsP R ag sz (xs.take k ++ ys ++ xs.drop (k + ys.length)) (spliceV fl0 (k * sz) fl) := by
  unfold spliceV
  rw [h'.length, ← Nat.add_mul]
  exact ((h.take k).append h').append (h.drop (k + ys.length))
theorem take_spliceV {cs us : List Value} {k n : Nat} (h1 : k + us.length ≤ n) (h2 : n ≤ cs.length) : (spliceV cs k us).take n = spliceV (cs.take n) k us := by
  unfold spliceV
  have hl : (cs.take k ++ us).length = k + us.length := by simp; omega
  rw [List.take_append, List.take_of_length_le (l := cs.take k ++ us) (by omega), hl, List.take_take, Nat.min_eq_left (by omega), List.drop_take]
/-- Rows are written over others. -/
theorem rows_turn {e : Sh} {xs ys : List D} {u : TypeId} {H1 : Hp} {fl : List Value} {b g o c k : Nat} {cur cur2 : Array Value} {nl : Bool}
    (q1 : Rel ρ H1 Φ w) (hb : hget H1 b = some ⟨.rows e nl xs, u, false⟩) (hm : ρ b = some (.row g o xs.length c)) (hnl : nl = false)
    (h2 : xs.length ≤ c) (h3 : c ≤ maxLen) (h4 : w.heap[g]? = some (.cells cur u (0, 0))) (h5 : o + c * e.size ≤ cur.size) (h6 : RowsP (fun d v => DenD Φ w e d v) e.isAgg e.size xs ((cur.toList.drop o).take (xs.length * e.size)))
    (hs : RowsP (fun d v => DenD Φ w e d v) e.isAgg e.size ys fl) (hk : k + ys.length ≤ xs.length) (hc : cur2.toList = spliceV cur.toList (o + k * e.size) fl) :
    Rel ρ (H1.set b (some ⟨.rows e nl (xs.take k ++ ys ++ xs.drop (k + ys.length)), u, false⟩)) Φ (w.setRow g cur2) ∧ Grow ρ Φ w ρ Φ (w.setRow g cur2) := by
  have hap := q1.apart _ _ _ _ hb hm rfl rfl
  have he : Ext Φ w (w.setRow g cur2) := ⟨rfl, rfl, rfl, by simp [World.setRow], fun k hk => setRow_other w g k cur2 (fun e => hap (e ▸ hk))⟩
  have gw : Gro ρ Φ w ρ Φ _ := Gro.world he
  have hml := hs.length
  have hle1 : (k + ys.length) * e.size ≤ xs.length * e.size := Nat.mul_le_mul_right _ hk
  have hle2 : xs.length * e.size ≤ c * e.size := Nat.mul_le_mul_right _ h2
  rw [Nat.add_mul] at hle1
  have hcl : o + c * e.size ≤ cur.toList.length := by simpa using h5
  have hl2 : (xs.take k ++ ys ++ xs.drop (k + ys.length)).length = xs.length := by simp; omega
  refine ⟨?_, Grow.world he (fun k _ hn => setRow_other w g k cur2 (fun e => hn ⟨b, _, hm, by rw [e]; rfl⟩))⟩
  refine q1.turn hb rfl rfl hm he (fun q hq => setRow_other w g q cur2 (fun e => hq (by rw [e]; rfl))) ?_
  subst hnl
  refine BlkOK.row_ hl2.symm (by rw [hl2]; exact h2) h3 (setRow_heap w g cur cur2 u _ h4) ?_ ?_
  · have : cur2.toList.length = cur.toList.length := by rw [hc, spliceV_length (by omega)]
    have h7 : cur2.size = cur.size := by simpa using this
    rw [h7]; exact h5
  · rw [hl2, hc, drop_spliceV (by omega), take_spliceV (by omega) (by simp; omega)]
    exact rows_splice (h6.mono (fun d v hd => DenD.mono gw.ext gw.phi hd)) (hs.mono (fun d v hd => DenD.mono gw.ext gw.phi hd)) k

theorem appendE_run (hrel : Rel ρ H Φ w) {t ty : TypeId} {s x r : SV} {sv xv : Value} {H' : Hp} (hs : Den ρ Φ w s sv) (hx : Den ρ Φ w x xv) (h : (appendE T H t s x).run = some (r, H')) :
    ∃ r0 w' ρ' Φ', (Builtin.append_ #[t, t] ty #[sv, xv]).run P w = .ok r0 w' ∧ Den ρ' Φ' w' r r0 ∧ Rel ρ' H' Φ' w' ∧ Grow ρ Φ w ρ' Φ' w' := by
  unfold appendE at h
  split at h
  · rename_i u hu
    split at h
    · rename_i e by_ zl hsh hby hzl
      split at h
      · rename_i ut hrt
        obtain ⟨r1, r2, r3⟩ := rowT_run hrt
        rw [hu] at r1; simp only [Option.some.injEq, TypeDesc.slice.injEq] at r1; subst r1
        split at h
        · simp [Tree.run] at h
        · rename_i hcc
          simp only [Bool.and_eq_true, Nat.beq_eq, Bool.not_eq_true'] at hcc
          obtain ⟨⟨hz1, hz2⟩, hfine⟩ := hcc
          have hsz : 0 < e.size := Nat.pos_of_ne_zero (nbf.1 hz2)
          obtain ⟨i, z, hi, hz, his, hib, hzs⟩ := zero_of (P := P) hzl hby r2 hz1
          have hu := und_of (P := P) hu
          have ht : RowTy P t u e i z := ⟨hu, hi, hz, his, hzs, hsz, hfine⟩
          subst hib
          -- onto a list without room
          have empCase : ∀ (nl : Bool) (b : Option Addr), nl = b.isNone → sv = .slice b 0 0 → (match srcRows H e x with
              | some (ys, H') => Tree.need (roomFor ys.length i.bytes) (.ret (SV.own H'.length, H' ++ [some (Blk.mk (.rows e (nl && ys.isEmpty) ys) u false)]))
              | none => .bad "append: what is appended").run = some (r, H') →
              ∃ r0 w' ρ' Φ', (Builtin.append_ #[t, t] ty #[sv, xv]).run P w = .ok r0 w' ∧ Den ρ' Φ' w' r r0 ∧ Rel ρ' H' Φ' w' ∧ Grow ρ Φ w ρ' Φ' w' := by
            intro nl b hnl hsv h
            subst hsv
            split at h
            · rename_i ys H1 hsrc
              obtain ⟨hroom, h⟩ := Tree.run_need h
              simp only [roomFor, Bool.and_eq_true, decide_eq_true_eq] at hroom
              simp only [Tree.run, Option.some.injEq, Prod.mk.injEq] at h
              obtain ⟨rfl, rfl⟩ := h
              obtain ⟨Φ1, fl, a, cap, q1, q2, q3, rfl, q5, q6, q7⟩ := srcRows_run hrel hx hsrc
              obtain ⟨r0, w', m, g1, g2, g3, g4⟩ := append_empty q1 ht ⟨q5, fun h => (q6 h).1, q7⟩ hnl hroom.1 hroom.2
              exact ⟨r0, w', _, Φ1, g1, g2, g3, q2.trans g4⟩
            · simp [Tree.run] at h
          split at h
          · simp only [Den] at hs
            refine empCase true none rfl hs ?_
            simp only [Bool.true_and]; exact h
          · simp only [Den, DenD, D.nl, D.xs] at hs
            obtain ⟨a, cap, rfl, _, _, q3, q4, _⟩ := hs
            have ha : a = none := q3.1 rfl
            subst ha
            obtain ⟨_, rfl⟩ := q4 rfl
            refine empCase true none rfl rfl ?_
            simp only [Bool.true_and]; exact h
          · rename_i b
            split at h
            · rename_i ys H1 hsrc
              split at h
              · rename_i e' nl xs u' hb
                split at h
                · rename_i heq
                  simp only [Bool.and_eq_true, Nat.beq_eq] at heq
                  obtain ⟨he1, he2⟩ := heq
                  have := Sh.beq_eq he1; subst this
                  subst he2
                  obtain ⟨hroom, h⟩ := Tree.run_need h
                  simp only [roomFor, Bool.and_eq_true, decide_eq_true_eq] at hroom
                  simp only [Tree.run, Option.some.injEq, Prod.mk.injEq] at h
                  obtain ⟨rfl, rfl⟩ := h
                  obtain ⟨Φ1, fl, a, cap, q1, q2, q3, rfl, q5, q6, q7⟩ := srcRows_run hrel hx hsrc
                  obtain ⟨m, hm, hok⟩ := q1.own _ _ hb
                  have hlen : H1.length = (H1.set b none).length := by simp
                  have hsb := hs
                  simp only [Den] at hsb
                  simp only [BlkOK] at hok
                  rcases hok with ⟨a0, rfl, rfl, rfl⟩ | ⟨g, o, c, cur, rfl, rfl, h2, h3, h4, h5, h6⟩
                  · rcases hsb with ⟨_, _, _, _, s1, _⟩ | ⟨a1, s1, rfl⟩
                    · rw [hm] at s1; cases s1
                    · rw [hm] at s1; simp only [Option.some.injEq, Nm.emp.injEq] at s1; subst s1
                      simp only [List.length_nil, Nat.zero_add] at hroom
                      obtain ⟨r0, w', m, g1, g2, g3, g4⟩ := append_empty (cap := cap) (q1.kill b) ht ⟨q5, fun h => (q6 h).1, q7⟩ rfl hroom.1 hroom.2
                      rw [← hlen] at g2 g3 g4
                      exact ⟨r0, w', _, Φ1, g1, g2, by simpa using g3, q2.trans g4⟩
                  · rcases hsb with ⟨_, _, _, _, s1, rfl⟩ | ⟨_, s1, _⟩
                    · rw [hm] at s1; simp only [Option.some.injEq, Nm.row.injEq] at s1
                      obtain ⟨rfl, rfl, rfl, rfl⟩ := s1
                      obtain ⟨r0, w', m, g1, g2, g3, g4⟩ := append_view (lo := 0) (hi := xs.length) (off := o) (cap := cap) q1 ht ⟨q5, fun h => (q6 h).1, q7⟩ hb hm h2 h3 h4 h5 h6 (Nat.zero_le _) (Nat.le_refl _) (fun _ => by simp) hroom.1 hroom.2
                      exact ⟨r0, w', _, Φ1, g1, g2, by simpa using g3, q2.trans g4⟩
                    · rw [hm] at s1; cases s1
                · simp [Tree.run] at h
              · simp [Tree.run] at h
            · simp [Tree.run] at h
          · rename_i nl
            simp only [Den] at hs
            obtain ⟨a, hn, hsv⟩ := hs
            exact empCase nl a hn hsv h
          · rename_i b sz lo hi_
            split at h
            · rename_i ys H1 hsrc
              split at h
              · rename_i e' nl xs u' hb
                split at h
                · rename_i heq
                  simp only [Bool.and_eq_true, Nat.beq_eq] at heq
                  obtain ⟨⟨he1, he2⟩, he3⟩ := heq
                  have := Sh.beq_eq he1; subst this
                  subst he2
                  subst he3
                  obtain ⟨Φ1, fl, a, cap, q1, q2, q3, rfl, q5, q6, q7⟩ := srcRows_run hrel hx hsrc
                  obtain ⟨m, hm, hok⟩ := q1.own _ _ hb
                  simp only [Den] at hs
                  simp only [BlkOK] at hok
                  have hml := q5.length
                  rcases Tree.run_ite h with ⟨hc, h⟩ | ⟨hc, h⟩
                  · simp only [decide_eq_true_eq] at hc
                    simp only [Tree.run, Option.some.injEq, Prod.mk.injEq] at h
                    obtain ⟨rfl, rfl⟩ := h
                    rcases hok with ⟨a0, rfl, rfl, rfl⟩ | ⟨g, o, c, cur, rfl, rfl, h2, h3, h4, h5, h6⟩
                    · rcases hs with ⟨_, _, _, _, _, s1, _⟩ | ⟨a1, s1, rfl, rfl, rfl⟩
                      · rw [hm] at s1; cases s1
                      · rw [hm] at s1; simp only [Option.some.injEq, Nm.emp.injEq] at s1; subst s1
                        have hy : ys = [] := List.length_eq_zero_iff.1 (by simpa using hc)
                        subst hy
                        refine ⟨_, w, ρ, Φ1, run_append_nought w t ty u i ht.und ht.info a0 a 0 0 cap (Nat.le_refl _), ?_, ?_, q2⟩
                        · simp only [Den]; exact .inr ⟨a0, hm, trivial, by simp, by simp⟩
                        · exact q1.turn hb rfl rfl hm (Ext.refl _ _) (fun _ _ => rfl) (BlkOK.emp_ rfl)
                    · rcases hs with ⟨_, _, _, _, off, s1, s2, s3, s4, rfl⟩ | ⟨_, s1, _⟩
                      · rw [hm] at s1; simp only [Option.some.injEq, Nm.row.injEq] at s1
                        obtain ⟨rfl, rfl, rfl, rfl⟩ := s1
                        have den : Den ρ Φ1 w (.osl b e.size lo (hi_ + ys.length)) (.slice (some ⟨g, off, none⟩) (hi_ - lo + ys.length) (c - lo)) := by
                          simp only [Den]
                          exact .inl ⟨g, o, _, c, off, hm, by omega, hc, s4, by congr 1; omega⟩
                        by_cases hy : ys = []
                        · subst hy
                          refine ⟨_, w, ρ, Φ1, run_append_nought w t ty u i ht.und ht.info _ a (hi_ - lo) (c - lo) cap (by omega), den, ?_, q2⟩
                          refine q1.turn hb rfl rfl hm (Ext.refl _ _) (fun _ _ => rfl) ?_
                          have hl2 : (xs.take hi_ ++ [] ++ xs.drop (hi_ + ([] : List D).length)) = xs := by simp
                          rw [hl2]
                          exact BlkOK.row_ rfl h2 h3 h4 h5 h6
                        · cases a with
                          | none => exact absurd (q6 rfl).1 hy
                          | some p =>
                            have hy0 : 0 < ys.length := List.length_pos_iff.2 hy
                            have e1 := s4 (by omega)
                            have hone : ∀ v ∈ fl, v.oneCell' = true := fun v hv => by rw [oneCell_of]; exact rows_one ht.fine q5 v hv
                            have e2 : off + (hi_ - lo) * e.size = o + hi_ * e.size := by
                              have : hi_ * e.size = lo * e.size + (hi_ - lo) * e.size := by rw [← Nat.add_mul]; congr 1; omega
                              omega
                            have hle : (hi_ + ys.length) * e.size ≤ c * e.size := Nat.mul_le_mul_right _ (by omega)
                            rw [Nat.add_mul] at hle
                            have hrun := run_append_room_at (P := P) w t ty u i ht.und ht.info g off (hi_ - lo) (c - lo) cur h4 p ys.length cap fl (by rw [hml, ht.size]) (q7 p rfl) hone (by omega) (by rw [ht.size, e2, hml]; omega)
                            rw [ht.size, e2] at hrun
                            obtain ⟨g1, g2⟩ := rows_turn (cur2 := (cur.toList.take (o + hi_ * e.size) ++ fl ++ cur.toList.drop (o + hi_ * e.size + fl.length)).toArray) q1 hb hm rfl h2 h3 h4 h5 h6 q5 hc rfl
                            exact ⟨_, _, ρ, Φ1, hrun, den.mono (Gro.world g2.ext), g1, q2.trans g2⟩
                      · rw [hm] at s1; cases s1
                  · obtain ⟨hroom, h⟩ := Tree.run_need h
                    simp only [decide_eq_false_iff_not] at hc
                    simp only [roomFor, Bool.and_eq_true, decide_eq_true_eq] at hroom
                    simp only [Tree.run, Option.some.injEq, Prod.mk.injEq] at h
                    obtain ⟨rfl, rfl⟩ := h
                    have hlen : H1.length = (H1.set b none).length := by simp
                    rcases hok with ⟨a0, rfl, rfl, rfl⟩ | ⟨g, o, c, cur, rfl, rfl, h2, h3, h4, h5, h6⟩
                    · rcases hs with ⟨_, _, _, _, _, s1, _⟩ | ⟨a1, s1, rfl, rfl, rfl⟩
                      · rw [hm] at s1; cases s1
                      · rw [hm] at s1; simp only [Option.some.injEq, Nm.emp.injEq] at s1; subst s1
                        simp only [Nat.sub_zero, Nat.zero_add] at hroom
                        obtain ⟨r0, w', m, g1, g2, g3, g4⟩ := append_empty (cap := cap) (nl := a0.isNone) (q1.kill b) ht ⟨q5, fun h => (q6 h).1, q7⟩ rfl hroom.1 hroom.2
                        rw [← hlen] at g2 g3 g4
                        have hye : ys.isEmpty = false := by
                          cases ys with
                          | nil => exact absurd (Nat.le_refl 0) hc
                          | cons y r => rfl
                        rw [hye, Bool.and_false] at g3
                        exact ⟨r0, w', _, Φ1, g1, g2, by simpa using g3, q2.trans g4⟩
                    · rcases hs with ⟨_, _, _, _, off, s1, s2, s3, s4, rfl⟩ | ⟨_, s1, _⟩
                      · rw [hm] at s1; simp only [Option.some.injEq, Nm.row.injEq] at s1
                        obtain ⟨rfl, rfl, rfl, rfl⟩ := s1
                        obtain ⟨r0, w', m, g1, g2, g3, g4⟩ := append_view (cap := cap) q1 ht ⟨q5, fun h => (q6 h).1, q7⟩ hb hm h2 h3 h4 h5 h6 s2 s3 s4 hroom.1 hroom.2
                        exact ⟨r0, w', _, Φ1, g1, g2, g3, q2.trans g4⟩
                      · rw [hm] at s1; cases s1
                · simp [Tree.run] at h
              · simp [Tree.run] at h
            · simp [Tree.run] at h
          · rename_i b sz lo hi_
            split at h
            · rename_i ys H1 hsrc
              split at h
              · rename_i e' nl xs u' hb
                split at h
                · rename_i heq
                  simp only [Bool.and_eq_true, Nat.beq_eq] at heq
                  obtain ⟨⟨he1, he2⟩, he3⟩ := heq
                  have := Sh.beq_eq he1; subst this
                  subst he2
                  subst he3
                  obtain ⟨hroom, h⟩ := Tree.run_need h
                  simp only [roomFor, Bool.and_eq_true, decide_eq_true_eq] at hroom
                  simp only [Tree.run, Option.some.injEq, Prod.mk.injEq] at h
                  obtain ⟨rfl, rfl⟩ := h
                  obtain ⟨Φ1, fl, a, cap, q1, q2, q3, rfl, q5, q6, q7⟩ := srcRows_run hrel hx hsrc
                  obtain ⟨m, hm, hok⟩ := q1.own _ _ hb
                  have hlen : H1.length = (H1.set b none).length := by simp
                  simp only [Den] at hs
                  simp only [BlkOK] at hok
                  rcases hok with ⟨a0, rfl, rfl, rfl⟩ | ⟨g, o, c, cur, rfl, rfl, h2, h3, h4, h5, h6⟩
                  · rcases hs with ⟨_, _, _, _, _, s1, _⟩ | ⟨a1, s1, rfl, rfl, rfl⟩
                    · rw [hm] at s1; cases s1
                    · rw [hm] at s1; simp only [Option.some.injEq, Nm.emp.injEq] at s1; subst s1
                      simp only [Nat.sub_zero, Nat.zero_add] at hroom
                      obtain ⟨r0, w', m, g1, g2, g3, g4⟩ := append_empty (cap := cap) (nl := a0.isNone) (q1.kill b) ht ⟨q5, fun h => (q6 h).1, q7⟩ rfl hroom.1 hroom.2
                      rw [← hlen] at g2 g3 g4
                      exact ⟨r0, w', _, Φ1, g1, g2, by simpa using g3, q2.trans g4⟩
                  · rcases hs with ⟨_, _, _, _, off, s1, s2, s3, s4, rfl⟩ | ⟨_, s1, _⟩
                    · rw [hm] at s1; simp only [Option.some.injEq, Nm.row.injEq] at s1
                      obtain ⟨rfl, rfl, rfl, rfl⟩ := s1
                      obtain ⟨r0, w', m, g1, g2, g3, g4⟩ := append_cut (cap := cap) q1 ht ⟨q5, fun h => (q6 h).1, q7⟩ hb hm h2 h3 h4 h5 h6 s2 s3 s4 hroom.1 hroom.2
                      exact ⟨r0, w', _, Φ1, g1, g2, by simpa using g3, q2.trans g4⟩
                    · rw [hm] at s1; cases s1
                · simp [Tree.run] at h
              · simp [Tree.run] at h
            · simp [Tree.run] at h
          · -- onto a full slice
            rename_i b off len cap
            split at h
            · rename_i xs H1 hlc hsrc1
              simp only [Nat.beq_eq] at hlc
              subst hlc
              split at h
              · rename_i ys H2 hsrc2
                split at h
                · rename_i hxe hye
                  obtain ⟨hroom, h⟩ := Tree.run_need h
                  simp only [roomFor, Bool.and_eq_true, decide_eq_true_eq] at hroom
                  simp only [Tree.run, Option.some.injEq, Prod.mk.injEq] at h
                  obtain ⟨rfl, rfl⟩ := h
                  obtain ⟨Φ0, fl0, a0, cap0, t1, t2, t3, hsv, t5, t6, t7⟩ := srcRows_run hrel hs hsrc1
                  obtain ⟨Φ1, fl, a, cap1, q1, q2, q3, rfl, q5, q6, q7⟩ := srcRows_run t1 (hx.mono t2.toGro) hsrc2
                  simp only [Den] at hs
                  obtain ⟨g, hg, hsg⟩ := hs
                  rw [hsv] at hsg
                  simp only [Value.slice.injEq] at hsg
                  obtain ⟨rfl, hxl, rfl⟩ := hsg
                  have hm0 := t5.length
                  have hml := q5.length
                  have big : xs.length + ys.length ≤ maxLen := by simp only [maxLen]; omega
                  have hy0 : 0 < ys.length := by
                    cases ys with
                    | nil => cases hye
                    | cons y r => simp
                  cases a with
                  | none => obtain ⟨rfl, _⟩ := q6 rfl; simp at hy0
                  | some p =>
                    have hcells := t7 _ rfl
                    rw [hsv]
                    have hrun := run_append_grow (P := P) w t ty u i z hu hi hz ⟨g, off, none⟩ xs.length cap0 fl0 (by rw [hm0, his]) hcells p ys.length cap1 fl (by rw [hml, his]) (q7 p rfl) (by omega)
                      (by have := hroom.2; omega) (growslice_fits (by omega) hroom.1)
                    generalize hcc : grownCap w (xs.length + ys.length) cap0 u = c2 at hrun
                    have hge : xs.length + ys.length ≤ c2 := by rw [← hcc]; exact grownCap_ge w _ _ _
                    have hcm : c2 ≤ maxLen := by rw [← hcc]; exact grownCap_le_maxLen w _ _ _ big
                    generalize hcd : (fl0.toArray ++ fl.toArray ++ Builtin.zeroCells z.cells (c2 - (xs.length + ys.length))) = cur2 at hrun
                    have hsz2 : cur2.size = 0 + c2 * e.size := by
                      rw [← hcd]
                      simp only [Array.size_append, List.size_toArray, size_zeroCells, hzs, hm0, hml, ← Nat.add_mul, Nat.zero_add]
                      congr 1; omega
                    have he : Ext Φ1 w (w.drew.alloc (.cells cur2 u)) := ⟨rfl, rfl, rfl, by simp, fun k hk => by have := q1.phi k hk; exact Below.heap_alloc w.drew _ k this⟩
                    have gw : Gro ρ Φ1 w ρ Φ1 _ := Gro.world he
                    have htake : (cur2.toList.drop 0).take ((xs ++ ys).length * e.size) = fl0 ++ fl := by
                      rw [← hcd, List.drop_zero]
                      simp only [Array.toList_append, List.toList_toArray]
                      have : (fl0 ++ fl).length = (xs ++ ys).length * e.size := by simp only [List.length_append, hm0, hml, Nat.add_mul]
                      rw [← this]; exact List.take_left
                    have hadd := q1.add (w' := w.drew.alloc (.cells cur2 u)) (m := .row w.heap.size 0 (xs ++ ys).length c2) (b := ⟨.rows e false (xs ++ ys), u, false⟩) rfl he (fun k c' m' q hk hm' hq => Below.heap_alloc w.drew _ q (q1.lt hk hm' hq)) (fun q hq => by
                      simp only [Nm.block, Option.some.injEq] at hq; subst hq
                      exact ⟨fun hp => by have := q1.phi _ hp; omega, fun k c' m' hk _ hm' e => by have := q1.lt hk hm' e; omega⟩) (by
                      refine BlkOK.row_ rfl (by simpa using hge) hcm (by show (w.heap.push _)[w.heap.size]? = _; simp) (Nat.le_of_eq hsz2.symm) ?_
                      rw [htake]
                      exact (t5.mono (fun d v hd => DenD.mono he (fun q hq => hq) (DenD.mono (Ext.refl _ _) q2.phi hd))).append (q5.mono (fun d v hd => DenD.mono gw.ext gw.phi hd)))
                    have gn := q1.grow_named (.row w.heap.size 0 (xs ++ ys).length c2) he (fun q hq => by simp only [Nm.block, Option.some.injEq] at hq; subst hq; exact .inl (Nat.le_refl _)) (fun k hk _ => Below.heap_alloc w.drew _ k hk)
                    exact ⟨_, _, named ρ H2.length (.row w.heap.size 0 (xs ++ ys).length c2), Φ1, hrun, own_row (named_at ..) (by simp), hadd, (t2.trans q2).trans gn⟩
                · simp [Tree.run] at h
              · simp [Tree.run] at h
            · simp [Tree.run] at h
          · simp [Tree.run] at h
      · simp [Tree.run] at h
    · simp [Tree.run] at h
  · simp [Tree.run] at h
theorem clearE_run (hrel : Rel ρ H Φ w) {t ty : TypeId} {ts : Array TypeId} {x : SV} {xv : Value} {H' : Hp} (hts : ts[0]? = some t) (hx : Den ρ Φ w x xv) (h : (clearE T H t x).run = some H') :
    ∃ w', (Builtin.clear_ ts ty #[xv]).run P w = .ok (.tuple #[]) w' ∧ Rel ρ H' Φ w' ∧ Grow ρ Φ w ρ Φ w' := by
  unfold clearE at h
  split at h
  · rename_i u hu
    have hu' := und_of (P := P) hu
    have nought : ∀ (a : Option Addr) (c : Nat), (Builtin.clear_ ts ty #[.slice a 0 c]).run P w = .ok (.tuple #[]) w := by
      intro a c
      cases a <;> simp [Builtin.clear_, hts, run_underlying' hu, Sem.run_bind, Result.andThen_ok]
    split at h
    · simp only [Tree.run, Option.some.injEq] at h; subst h
      simp only [Den] at hx; subst hx
      refine ⟨w, ?_, hrel, Grow.refl ..⟩
      simp [Builtin.clear_, hts, run_underlying' hu, Sem.run_bind, Result.andThen_ok]
    · simp only [Tree.run, Option.some.injEq] at h; subst h
      simp only [Den] at hx; obtain ⟨a, _, rfl⟩ := hx
      exact ⟨w, nought a 0, hrel, Grow.refl ..⟩
    · rename_i b sz lo hi_
      split at h
      · rename_i e by_ z hsh hby hzl
        split at h
        · rename_i ut d e' nl xs u' hrt hfr hb
          obtain ⟨r1, r2, r3⟩ := rowT_run hrt
          rw [hu] at r1; simp only [Option.some.injEq, TypeDesc.slice.injEq] at r1; subst r1
          split at h
          · rename_i hcc
            simp only [Bool.and_eq_true, Nat.beq_eq, Bool.not_eq_true'] at hcc
            obtain ⟨⟨⟨he1, he2⟩, he3, hz1⟩, hz2, hfine⟩ := hcc
            have := Sh.beq_eq he1; subst this
            subst he2
            subst he3
            simp only [Tree.run, Option.some.injEq] at h; subst h
            have hsz : 0 < e.size := Nat.pos_of_ne_zero (nbf.1 hz2)
            obtain ⟨m, hm, hok⟩ := hrel.own _ _ hb
            simp only [Den] at hx
            simp only [BlkOK] at hok
            rcases hok with ⟨a0, rfl, rfl, rfl⟩ | ⟨g, o, c, cur, rfl, rfl, h2, h3, h4, h5, h6⟩
            · rcases hx with ⟨_, _, _, _, _, s1, _⟩ | ⟨a1, s1, rfl, rfl, rfl⟩
              · rw [hm] at s1; cases s1
              · refine ⟨w, nought _ _, ?_, Grow.refl ..⟩
                exact hrel.turn hb rfl rfl hm (Ext.refl _ _) (fun _ _ => rfl) (BlkOK.emp_ rfl)
            · rcases hx with ⟨_, _, _, _, off, s1, s2, s3, s4, rfl⟩ | ⟨_, s1, _⟩
              · rw [hm] at s1; simp only [Option.some.injEq, Nm.row.injEq] at s1
                obtain ⟨rfl, rfl, rfl, rfl⟩ := s1
                obtain ⟨zv, zs, hzr, hzc, hzd⟩ := zeroL_run (P := P) hzl
                have hzn : zs.length = e.size := by rw [(hzd ρ Φ w).length]; exact hz1
                -- the zero row
                obtain ⟨Φ', _, g', d', _, n'⟩ := freeze_run (ρ := fun _ => none) (w := w) e _ [] d [] hfr (fun _ => False) (rel_nothing (fun k hk => hk.elim)) (packV e.isAgg zs) (by
                  have hq := hzd (fun _ => none) (fun _ => False) w
                  cases hag : e.isAgg with
                  | true => simp only [packV, Den]; exact ⟨zs, rfl, hq⟩
                  | false =>
                    simp only [packV]
                    cases z with
                    | nil => simp at hz1; omega
                    | cons c r => simp only [DenL] at hq; obtain ⟨v, rest, rfl, hv, _⟩ := hq; simpa using hv)
                have hP : ∀ k, Φ' k → Φ k := fun k hk => (n' k hk).elim (fun x => x.elim) (fun ⟨_, _, h, _⟩ => by cases h)
                have dz : DenD Φ w e d (packV e.isAgg zs) := DenD.mono (Ext.refl _ _) hP d'
                have hrows := rows_replicate (R := fun d v => DenD Φ w e d v) hzn dz (hi_ - lo)
                have hsum : lo + (List.replicate (hi_ - lo) d).length = hi_ := by simp; omega
                have hlz : (List.replicate (hi_ - lo) zs).flatten.length = (hi_ - lo) * e.size := by simp [hzn]
                rcases Nat.eq_zero_or_pos (hi_ - lo) with hh | hh
                · have hno := nought (some ⟨g, off, none⟩) (c - lo)
                  rw [hh]
                  refine ⟨w, hno, ?_, Grow.refl ..⟩
                  refine hrel.turn hb rfl rfl hm (Ext.refl _ _) (fun _ _ => rfl) ?_
                  have : hi_ = lo := by omega
                  subst this
                  simp only [List.replicate_zero, List.append_nil, List.take_append_drop]
                  exact BlkOK.row_ rfl h2 h3 h4 h5 h6
                · have e1 := s4 (by omega)
                  have hle : hi_ * e.size ≤ c * e.size := Nat.mul_le_mul_right _ (by omega)
                  have hmul : hi_ * e.size = lo * e.size + (hi_ - lo) * e.size := by rw [← Nat.add_mul]; congr 1; omega
                  have hone : ∀ v ∈ (List.replicate (hi_ - lo) zs).flatten, v.oneCell' = true := fun v hv => by rw [oneCell_of]; exact rows_one hfine hrows v hv
                  have hst := run_storeCells_at P g off u (List.replicate (hi_ - lo) zs).flatten 0 cur w h4 (by rw [hlz]; omega) hone
                  have hzc' : Builtin.zeroCells zv.cells (hi_ - lo) = (List.replicate (hi_ - lo) zs).flatten.toArray := by
                    have hzs : zv.cells.size = e.size := by rw [hzc]; simpa using hzn
                    rw [← range_flatten_arr hzc e.size hzn hsz (hi_ - lo)]
                    unfold Builtin.zeroCells
                    rw [hzs]
                  have hrun : (Builtin.clear_ ts ty #[.slice (some ⟨g, off, none⟩) (hi_ - lo) (c - lo)]).run P w = .ok (.tuple #[]) (w.setRow g (cur.toList.take (off + 0) ++ (List.replicate (hi_ - lo) zs).flatten ++ cur.toList.drop (off + 0 + (List.replicate (hi_ - lo) zs).flatten.length)).toArray) := by
                    unfold Builtin.clear_
                    obtain ⟨n1, hn1⟩ : ∃ n1, hi_ - lo = n1 + 1 := ⟨hi_ - lo - 1, by omega⟩
                    rw [hn1] at hst hzc' ⊢
                    simp only [hts]
                    simp [run_underlying' hu, Sem.run_bind, Result.andThen_ok, hzr, hzc', hst]
                  obtain ⟨g1, g2⟩ := rows_turn (k := lo) (cur2 := (cur.toList.take (off + 0) ++ (List.replicate (hi_ - lo) zs).flatten ++ cur.toList.drop (off + 0 + (List.replicate (hi_ - lo) zs).flatten.length)).toArray) hrel hb hm rfl h2 h3 h4 h5 h6 hrows (by rw [hsum]; exact s3) (by simp [spliceV, e1])
                  rw [hsum] at g1
                  exact ⟨_, hrun, g1, g2⟩
              · rw [hm] at s1; cases s1
          · simp [Tree.run] at h
        · simp [Tree.run] at h
      · simp [Tree.run] at h
    · simp [Tree.run] at h
  · simp [Tree.run] at h

/-- A part of an own list, as a list of its own. -/
theorem narrow_run {e : Sh} {xs : List D} {u : TypeId} {b lo hi : Nat} {nl : Bool} {x : Value} (q1 : Rel ρ H Φ w) (hd : Den ρ Φ w (.osl b e.size lo hi) x) (hb : hget H b = some ⟨.rows e nl xs, u, false⟩) :
    ∃ m, Den (named ρ H.length m) Φ w (.own H.length) x ∧ Rel (named ρ H.length m) (H.set b none ++ [some ⟨.rows e nl ((xs.take hi).drop lo), u, false⟩]) Φ w ∧ Grow ρ Φ w (named ρ H.length m) Φ w := by
  have hblt := hget_lt hb
  have qk := q1.kill b
  have hlen : H.length = (H.set b none).length := by simp
  have hgk : ∀ k c, hget (H.set b none) k = some c → k ≠ b ∧ hget H k = some c := by
    intro k c hk
    rw [hget_set hblt] at hk
    split at hk
    · cases hk
    · rename_i hne; exact ⟨fun e => hne e.symm, hk⟩
  obtain ⟨m, hm, hok⟩ := q1.own _ _ hb
  simp only [Den] at hd
  simp only [BlkOK] at hok
  rcases hok with ⟨a0, rfl, rfl, rfl⟩ | ⟨g, o, c, cur, rfl, rfl, h2, h3, h4, h5, h6⟩
  · rcases hd with ⟨_, _, _, _, _, s1, _⟩ | ⟨a1, s1, rfl, rfl, rfl⟩
    · rw [hm] at s1; cases s1
    · rw [hm] at s1; simp only [Option.some.injEq, Nm.emp.injEq] at s1; subst s1
      refine ⟨.emp a0, own_emp (named_at ..), ?_, ?_⟩
      · rw [hlen]
        exact qk.add (w' := w) (m := .emp a0) rfl (Ext.refl _ _) (fun _ _ _ _ _ _ _ => rfl) (fun q hq => by cases hq) (BlkOK.emp_ rfl)
      · rw [hlen]
        exact qk.grow_named (w' := w) _ (Ext.refl _ _) (fun q hq => by cases hq) (fun _ _ _ => rfl)
  · rcases hd with ⟨_, _, _, _, off, s1, l1, l2, hoff, rfl⟩ | ⟨_, s1, _⟩
    · rw [hm] at s1; simp only [Option.some.injEq, Nm.row.injEq] at s1
      obtain ⟨rfl, rfl, rfl, rfl⟩ := s1
      have hap := q1.apart _ _ _ _ hb hm rfl rfl
      have hfree : ∀ k c m', hget (H.set b none) k = some c → c.ro = false → ρ k = some m' → m'.block ≠ some g := by
        intro k c' m' hk hro hm' e
        obtain ⟨hne, hk'⟩ := hgk k c' hk
        exact hne (q1.inj k b c' _ m' _ g hk' hb hro rfl hm' hm e rfl)
      have hXl : ((xs.take hi).drop lo).length = hi - lo := by simp; omega
      have h6v : RowsP (fun d v => DenD Φ w e d v) e.isAgg e.size ((xs.take hi).drop lo) ((cur.toList.drop (o + lo * e.size)).take ((hi - lo) * e.size)) := by
        have := (h6.take hi).drop lo
        rwa [view_cells l1 l2] at this
      rcases Nat.lt_or_ge lo c with hc | hc
      · have hcsz : c * e.size = lo * e.size + (c - lo) * e.size := by rw [← Nat.add_mul]; congr 1; omega
        have e1 := hoff hc
        refine ⟨.row g off (hi - lo) (c - lo), own_row (named_at ..) rfl, ?_, ?_⟩
        · rw [hlen]
          refine qk.add (w' := w) (m := .row g off (hi - lo) (c - lo)) rfl (Ext.refl _ _) (fun _ _ _ _ _ _ _ => rfl) (fun q hq => by
            simp only [Nm.block, Option.some.injEq] at hq; subst hq; exact ⟨hap, hfree⟩) ?_
          refine BlkOK.row_ hXl.symm (by omega) (by omega) h4 (by rw [e1]; rw [hcsz] at h5; omega) ?_
          rw [hXl, e1]
          exact h6v.mono (fun d v hd => DenD.mono (Ext.refl _ _) (fun _ h => h) hd)
        · rw [hlen]
          exact qk.grow_named (w' := w) _ (Ext.refl _ _) (fun q hq => .inr ⟨b, _, hm, hq⟩) (fun _ _ _ => rfl)
      · have e0 : hi - lo = 0 := by omega
        have e2 : (xs.take hi).drop lo = [] := List.length_eq_zero_iff.1 (by rw [hXl, e0])
        have e3 : c - lo = 0 := by omega
        rw [e0, e3, e2]
        refine ⟨.emp (some ⟨g, off, none⟩), own_emp (named_at ..), ?_, ?_⟩
        · rw [hlen]
          exact qk.add (w' := w) (m := .emp (some ⟨g, off, none⟩)) rfl (Ext.refl _ _) (fun _ _ _ _ _ _ _ => rfl) (fun q hq => by cases hq) (BlkOK.emp_ rfl)
        · rw [hlen]
          exact qk.grow_named (w' := w) _ (Ext.refl _ _) (fun q hq => by cases hq) (fun _ _ _ => rfl)
    · rw [hm] at s1; cases s1

theorem storeN_run {t : TypeId} {x v : SV} {u y : Value} {H' : Hp} (hrel : Rel ρ H Φ w) (hx : Den ρ Φ w x u) (hv : Den ρ Φ w v y) (h : (storeN T H t x v).run = some H') :
    ∃ w' ρ' Φ', (Instr.storeAt t u y).run P w = .ok () w' ∧ Rel ρ' H' Φ' w' ∧ Grow ρ Φ w ρ' Φ' w' := by
  unfold storeN at h
  split at h
  · rename_i b sz lo hi
    split at h
    · rename_i e nl xs ty hb
      split at h
      · rename_i hsz
        have hsz' : sz = e.size := by simpa using hsz
        subst hsz'
        obtain ⟨m, d1, r1, g1⟩ := narrow_run hrel hv hb
        obtain ⟨w', Φ', q1, q2, q3⟩ := storeE_run (P := P) r1 (hx.mono g1.toGro) d1 h
        exact ⟨w', _, Φ', q1, q2, g1.trans q3⟩
      · simp [Tree.run] at h
    · simp [Tree.run] at h
  · obtain ⟨w', Φ', q1, q2, q3⟩ := storeE_run (P := P) hrel hx hv h
    exact ⟨w', ρ, Φ', q1, q2, q3⟩
end
end Go.Sy
