/-
  Stores: as the model has them.
  No statement of the seat is proved here. Conditions: none.
-/
import Derived.Test.YtmokkonnilmdfaaY9
set_option linter.unusedSimpArgs false
set_option linter.unusedVariables false
namespace Go.Sy
open Go.RowKit

/-- The world with another block in a place. -/
def putBlk (w : World) (g : Nat) (o : Obj) : World := { w with heap := w.heap.setIfInBounds g o }

theorem setCell_put {w : World} {g : Nat} {cs : List Value} {ty : TypeId} (h : w.heap[g]? = some (.cells cs.toArray ty (0, 0))) (i : Nat) (v : Value) :
    w.setCell ⟨g, i, none⟩ v = putBlk w g (.cells (cs.set i v).toArray ty (0, 0)) := by
  unfold World.setCell putBlk
  congr 1
  apply Array.ext_getElem?
  intro j
  rw [Array.getElem?_modify, Array.getElem?_setIfInBounds]
  have hg : g < w.heap.size := (Array.getElem?_eq_some_iff.1 h).1
  by_cases hj : g = j
  · subst hj
    rw [if_pos rfl, if_pos rfl, if_pos hg, h]
    simp
  · simp [hj]
theorem putBlk_put (w : World) (g : Nat) (o o' : Obj) : putBlk (putBlk w g o) g o' = putBlk w g o' := by
  unfold putBlk; congr 1
  simp [Array.setIfInBounds_setIfInBounds]
theorem putBlk_get {w : World} {g : Nat} (hg : g < w.heap.size) (o : Obj) : (putBlk w g o).heap[g]? = some o := by
  simp [putBlk, Array.getElem?_setIfInBounds, hg]
theorem putBlk_other {w : World} {g j : Nat} (h : g ≠ j) (o : Obj) : (putBlk w g o).heap[j]? = w.heap[j]? := by
  simp [putBlk, Array.getElem?_setIfInBounds, h]
theorem putBlk_self {w : World} {g : Nat} {o : Obj} (h : w.heap[g]? = some o) : putBlk w g o = w := by
  unfold putBlk
  have : w.heap.setIfInBounds g o = w.heap := by
    apply Array.ext_getElem?
    intro j
    rw [Array.getElem?_setIfInBounds]
    by_cases hj : g = j
    · subst hj
      have hg : g < w.heap.size := (Array.getElem?_eq_some_iff.1 h).1
      rw [h]; simp [hg]
    · simp [hj]
  rw [this]
theorem putBlk_ext {Φ : Nat → Prop} {w : World} {g : Nat} (h : ¬ Φ g) (o : Obj) : Ext Φ w (putBlk w g o) :=
  ⟨rfl, rfl, rfl, by simp [putBlk], fun k hk => putBlk_other (fun e => h (by rw [e]; exact hk)) o⟩

theorem drop_spliceV {cs us : List Value} {o k : Nat} (h : o + k ≤ cs.length) : (spliceV cs (o + k) us).drop o = spliceV (cs.drop o) k us := by
  unfold spliceV
  rw [List.append_assoc, List.drop_append_of_le_length (by simp; omega), List.drop_take, List.append_assoc, List.drop_drop, Nat.add_sub_cancel_left, Nat.add_assoc]
theorem storeCells_run {P : Program} {g off : Nat} {ty : TypeId} :
    ∀ (vs : List Value) (i : Nat) (w : World) (cs : List Value), w.heap[g]? = some (.cells cs.toArray ty (0, 0)) → off + i + vs.length ≤ cs.length → (∀ v ∈ vs, oneV v = true) →
      (storeCells ⟨g, off, none⟩ vs i).run P w = .ok () (putBlk w g (.cells (spliceV cs (off + i) vs).toArray ty (0, 0)))
  | [], i, w, cs, h, _, _ => by
    have : spliceV cs (off + i) [] = cs := by simp [spliceV]
    rw [this, putBlk_self h]
    simp [storeCells]
  | v :: r, i, w, cs, h, hle, hv => by
    have hlt : off + i < cs.length := by simp at hle; omega
    have hcell : w.cell? ⟨g, off + i, none⟩ = some (cs[off + i]) := by
      simp only [World.cell?, h]; simp [hlt]
    have hfr : w.frozen? ⟨g, off + i, none⟩ = false := by simp only [World.frozen?, h]; simp
    have h1 := hv v (by simp)
    have hst : (store ⟨g, off + i, none⟩ v).run P w = .ok () (w.setCell ⟨g, off + i, none⟩ v) := by
      cases v <;> simp_all [store, Sem.run, oneV]
    rw [storeCells, Sem.run_bind, addr_add, hst, Result.andThen_ok, setCell_put h]
    have hg : g < w.heap.size := (Array.getElem?_eq_some_iff.1 h).1
    rw [storeCells_run r (i + 1) _ (cs.set (off + i) v) (putBlk_get hg _) (by simp at hle ⊢; omega) (fun x hx => hv x (by simp [hx]))]
    rw [putBlk_put]
    congr 3
    have e1 : (off + (i + 1)) = off + i + 1 := by omega
    have e2 : spliceV (cs.set (off + i) v) (off + (i + 1)) r = spliceV cs (off + i) (v :: r) := by
      unfold spliceV
      rw [e1]
      have t1 : (cs.set (off + i) v).take (off + i + 1) = cs.take (off + i) ++ [v] := by
        rw [List.take_add_one]
        simp [hlt, List.take_set_of_le]
      have t2 : (cs.set (off + i) v).drop (off + i + 1 + r.length) = cs.drop (off + i + (v :: r).length) := by
        rw [List.drop_set_of_lt (by omega)]
        congr 1; simp; omega
      rw [t1, t2]; simp
    rw [e2]

theorem spliceV_get {cs vs : List Value} {off : Nat} (hle : off + vs.length ≤ cs.length) (j : Nat) : (spliceV cs off vs)[j]? = if off ≤ j ∧ j < off + vs.length then vs[j - off]? else cs[j]? := by
  unfold spliceV
  rw [List.append_assoc, List.getElem?_append, List.getElem?_append]
  have hl : (cs.take off).length = off := by simp; omega
  rw [hl]
  by_cases h1 : j < off
  · rw [if_pos h1, if_neg (by omega), List.getElem?_take, if_pos h1]
  · rw [if_neg h1]
    by_cases h2 : j - off < vs.length
    · rw [if_pos h2, if_pos (by omega)]
    · rw [if_neg h2, if_neg (by omega), List.getElem?_drop]
      congr 1; omega
theorem spliceV_length {cs vs : List Value} {off : Nat} (hle : off + vs.length ≤ cs.length) : (spliceV cs off vs).length = cs.length := by
  unfold spliceV; simp; omega

theorem rows_set {R : D → Value → Prop} {ag : Bool} {sz : Nat} {d' : D} {row' : List Value} (hl : row'.length = sz) (h : R d' (packV ag row')) : ∀ {xs : List D} {fl : List Value} {i : Nat}, RowsP R ag sz xs fl → i < xs.length →
    RowsP R ag sz (xs.set i d') (spliceV fl (i * sz) row')
  | [], fl, i, hr, hi => by simp at hi
  | d :: r, fl, 0, ⟨row, rest, h1, h2, h3, h4⟩, hi => by
    subst h1
    refine ⟨row', rest, ?_, hl, h, h4⟩
    unfold spliceV
    simp only [Nat.zero_mul, List.take_zero, List.nil_append, Nat.zero_add]
    rw [hl, ← h2, List.drop_left]
  | d :: r, fl, i + 1, ⟨row, rest, h1, h2, h3, h4⟩, hi => by
    subst h1
    refine ⟨row, spliceV rest (i * sz) row', ?_, h2, h3, rows_set hl h h4 (by simpa using hi)⟩
    unfold spliceV
    have e : (i + 1) * sz = row.length + i * sz := by rw [Nat.add_mul, h2]; omega
    rw [e, List.take_length_add_append, Nat.add_assoc, List.drop_length_add_append]
    simp

theorem DenDs_iff {Φ : Nat → Prop} {w : World} : ∀ {cs : List Sh} {d : D} {j : Nat} {vs : List Value}, DenDs Φ w cs d j vs ↔ vs.length = cs.length ∧ ∀ i c, cs[i]? = some c → ∃ v, vs[i]? = some v ∧ DenD Φ w c (d.at (j + i)) v
  | [], d, j, vs => by simp [DenDs]
  | c :: r, d, j, vs => by
    simp only [DenDs]
    constructor
    · rintro ⟨v, rest, rfl, h1, h2⟩
      obtain ⟨hl, hg⟩ := DenDs_iff.1 h2
      refine ⟨by simp [hl], fun i c' hi => ?_⟩
      cases i with
      | zero => simp at hi; subst hi; exact ⟨v, rfl, h1⟩
      | succ i =>
        obtain ⟨u, hu, hd⟩ := hg i c' (by simpa using hi)
        refine ⟨u, by simpa using hu, ?_⟩
        have e : j + (i + 1) = j + 1 + i := by omega
        rw [e]; exact hd
    · rintro ⟨hl, hg⟩
      obtain ⟨v, hv, hd⟩ := hg 0 c rfl
      cases vs with
      | nil => simp at hv
      | cons x rest =>
        simp at hv; subst hv
        refine ⟨x, rest, rfl, by simpa using hd, DenDs_iff.2 ⟨by simpa using hl, fun i c' hi => ?_⟩⟩
        obtain ⟨u, hu, hd'⟩ := hg (i + 1) c' (by simpa using hi)
        refine ⟨u, by simpa using hu, ?_⟩
        have e : j + (i + 1) = j + 1 + i := by omega
        rw [e] at hd'; exact hd'

theorem updD_get (d : D) (off : Nat) (ds : List D) : ∀ (n j q : Nat), q < n → (updD d off ds n j)[q]? = some (if off ≤ j + q ∧ j + q < off + ds.length then ds.getD (j + q - off) default else d.at (j + q))
  | 0, j, q, h => by omega
  | n + 1, j, 0, h => by
    simp only [updD, List.getElem?_cons_zero, Nat.add_zero, Option.some.injEq]
    by_cases h1 : off ≤ j ∧ j < off + ds.length
    · rw [if_pos h1]
      have : (Nat.ble off j && Nat.blt j (off + ds.length)) = true := by simp [Nat.blt_eq, h1.1, h1.2]
      rw [this]
    · rw [if_neg h1]
      have : (Nat.ble off j && Nat.blt j (off + ds.length)) = false := by
        cases hb : (Nat.ble off j && Nat.blt j (off + ds.length)) with
        | false => rfl
        | true =>
          simp only [Bool.and_eq_true, Nat.ble_eq, Nat.blt_eq] at hb
          exact absurd hb h1
      rw [this]
  | n + 1, j, q + 1, h => by
    simp only [updD, List.getElem?_cons_succ]
    rw [updD_get d off ds n (j + 1) q (by omega)]
    have e : j + 1 + q = j + (q + 1) := by omega
    rw [e]

theorem freezeL_length : ∀ {cs : List Sh} {vs : List SV} {H H' : Hp} {ds : List D}, freezeL cs vs H = some (ds, H') → ds.length = vs.length ∧ cs.length = vs.length
  | [], vs, H, H', ds, h => by
    simp only [freezeL] at h
    split at h
    · simp only [Option.some.injEq, Prod.mk.injEq] at h; obtain ⟨rfl, rfl⟩ := h; simp
    · cases h
  | c :: cs, vs, H, H', ds, h => by
    simp only [freezeL] at h
    split at h
    · split at h
      · split at h
        · rename_i h2
          simp only [Option.some.injEq, Prod.mk.injEq] at h; obtain ⟨rfl, rfl⟩ := h
          have := freezeL_length h2
          simp [this.1, this.2]
        · cases h
      · cases h
    · cases h

section
variable {P : Program} {T : Tab} [GoodTab P T] {ρ : Names} {H : Hp} {Φ : Nat → Prop} {w : World}

theorem storeVar_run {g off : Nat} {cs us : List Value} {ty t : TypeId} {y : Value} {n : Nat} (hg : w.heap[g]? = some (.cells cs.toArray ty (0, 0))) (hn : sizeT T t = some n) (hc : y.cells = us.toArray) (hl : us.length = n) (hle : off + us.length ≤ cs.length) (ha : ∀ v ∈ us, oneV v = true) :
    (Instr.storeAt t (.pointer (some ⟨g, off, none⟩)) y).run P w = .ok () (putBlk w g (.cells (spliceV cs off us).toArray ty (0, 0))) := by
  unfold Instr.storeAt storeVar
  simp only [Instr.sureAddr, Sem.run_bind, Sem.run_pure, Result.andThen_ok, hc, sizeT_run hn]
  rw [if_neg (by simp [hl])]
  have := storeCells_run (P := P) (g := g) (off := off) (ty := ty) us 0 w cs hg (by simpa using hle) ha
  simpa using this

theorem atoms_one {vs : List SV} {us : List Value} (h : DenL ρ Φ w vs us) (ha : vs.all SV.atom = true) : ∀ u ∈ us, oneV u = true := by
  intro u hu
  obtain ⟨v, hv, hd⟩ := h.mem hu
  exact oneV_of_atom (List.all_eq_true.1 ha v hv) hd

theorem take_splice {cs us : List Value} {n sz i off : Nat} (hle : off + us.length ≤ sz) (hi : i < n) (hn : n * sz ≤ cs.length) :
    (spliceV cs (i * sz + off) us).take (n * sz) = spliceV (cs.take (n * sz)) (i * sz) (spliceV (((cs.take (n * sz)).drop (i * sz)).take sz) off us) := by
  have h1 : (i + 1) * sz ≤ n * sz := Nat.mul_le_mul_right _ hi
  have h2 : (i + 1) * sz = i * sz + sz := by rw [Nat.add_mul]; omega
  have hlr : (((cs.take (n * sz)).drop (i * sz)).take sz).length = sz := by simp; omega
  have hls : (spliceV (((cs.take (n * sz)).drop (i * sz)).take sz) off us).length = sz := by rw [spliceV_length (by omega), hlr]
  apply List.ext_getElem?
  intro j
  rw [List.getElem?_take, spliceV_get (by omega), spliceV_get (by rw [hls]; simp; omega), hls]
  by_cases hj : i * sz ≤ j ∧ j < i * sz + sz
  · rw [if_pos (by omega), if_pos hj, spliceV_get (by omega)]
    by_cases hk : i * sz + off ≤ j ∧ j < i * sz + off + us.length
    · rw [if_pos hk, if_pos (by omega)]
      congr 1; omega
    · rw [if_neg hk, if_neg (by omega), List.getElem?_take, if_pos (by omega), List.getElem?_drop, List.getElem?_take, if_pos (by omega)]
      congr 1; omega
  · rw [if_neg hj]
    by_cases hk : j < n * sz
    · rw [if_pos hk, if_neg (by omega), List.getElem?_take, if_pos hk]
    · rw [if_neg hk, List.getElem?_take, if_neg hk]

theorem storeE_run (hrel : Rel ρ H Φ w) {t : TypeId} {x v : SV} {u y : Value} (hx : Den ρ Φ w x u) (hy : Den ρ Φ w v y) {H' : Hp} (h : (storeE T H t x v).run = some H') :
    ∃ w' Φ', (Instr.storeAt t u y).run P w = .ok () w' ∧ Rel ρ H' Φ' w' ∧ Grow ρ Φ w ρ Φ' w' := by
  unfold storeE at h
  split at h
  · rename_i b off
    split at h
    · rename_i vs n cs ty hf hn hb
      split at h
      · rename_i hc
        simp only [Bool.and_eq_true, beq_iff_eq, Nat.ble_eq] at hc
        obtain ⟨⟨hlen, hle⟩, hat⟩ := hc
        simp only [Tree.run, Option.some.injEq] at h; subst h
        obtain ⟨us, hus, hud⟩ := flat_cells hf hy
        obtain ⟨m, hm, hok⟩ := hrel.own _ _ hb
        simp only [BlkOK] at hok
        obtain ⟨g, xs, rfl, hg, hd⟩ := hok
        simp only [Den] at hx
        obtain ⟨g', hg', rfl⟩ := hx
        rw [hm] at hg'; simp only [Option.some.injEq, Nm.blk.injEq] at hg'; subst hg'
        have hap := hrel.apart _ _ _ _ hb hm rfl rfl
        have he := putBlk_ext (w := w) hap (.cells (spliceV xs off us).toArray ty (0, 0))
        have hrun := storeVar_run (P := P) hg hn hus (by rw [hud.length, hlen]) (by rw [hud.length, hd.length]; omega) (atoms_one hud hat)
        refine ⟨_, Φ, hrun, ?_, Grow.world he (fun k _ hn => putBlk_other (fun e => hn ⟨b, _, hm, by rw [← e]; rfl⟩) _)⟩
        refine hrel.turn hb rfl rfl hm he (fun q hq => putBlk_other (fun e => hq (by rw [← e]; rfl)) _) ?_
        simp only [BlkOK]
        exact ⟨g, _, rfl, putBlk_get (hrel.lt hb hm rfl) _, (hd.splice off hud).mono (Gro.world he)⟩
      · simp [Tree.run] at h
    · simp [Tree.run] at h
  · rename_i b sz i off
    split at h
    · rename_i vs n e nl0 xs0 ty0 ro0 hf hn hb0
      split at h
      · rename_i hc
        simp only [Bool.and_eq_true, beq_iff_eq, Nat.beq_eq] at hc
        obtain ⟨⟨hlen, hsz⟩, hat⟩ := hc
        subst hsz
        replace h := orBad_run h
        obtain ⟨us, hus, hud⟩ := flat_cells hf hy
        simp only [Den] at hx
        obtain ⟨g, o, n', c, hg', hin, rfl⟩ := hx
        -- the rest, in general
        have fin : ∀ (H1 : Hp) (Φ1 : Nat → Prop) (nl : Bool) (xs : List D) (ty : TypeId) (d' : D), Rel ρ H1 Φ1 w → Grow ρ Φ w ρ Φ1 w → hget H1 b = some ⟨.rows e nl xs, ty, false⟩ → off + us.length ≤ e.size →
            (∀ row : List Value, row.length = e.size → DenD Φ1 w e (xs.getD i default) (packV e.isAgg row) → DenD Φ1 w e d' (packV e.isAgg (spliceV row off us))) →
            ∃ w' Φ', (Instr.storeAt t (.pointer (some ⟨g, o + (i * e.size + off), none⟩)) y).run P w = .ok () w' ∧ Rel ρ (H1.set b (some ⟨.rows e nl (xs.set i d'), ty, false⟩)) Φ' w' ∧ Grow ρ Φ w ρ Φ' w' := by
          intro H1 Φ1 nl xs ty d' r1 g1 hb hoff hrow
          obtain ⟨m, hm, hok⟩ := r1.own _ _ hb
          simp only [BlkOK] at hok
          rcases hok with ⟨_, rfl, _⟩ | ⟨q, o', c', cur, rfl, h1, h2, h3, h4, h5, h6⟩
          · rw [hm] at hg'; cases hg'
          · rw [hm] at hg'; simp only [Option.some.injEq, Nm.row.injEq] at hg'
            obtain ⟨rfl, rfl, rfl, rfl⟩ := hg'
            have hap := r1.apart _ _ _ _ hb hm rfl rfl
            have h4' : w.heap[q]? = some (.cells cur.toList.toArray ty (0, 0)) := by simpa using h4
            have hcs : o' + c' * e.size ≤ cur.toList.length := by simpa using h5
            have hle1 : (i + 1) * e.size ≤ xs.length * e.size := Nat.mul_le_mul_right _ hin
            have hle2 : xs.length * e.size ≤ c' * e.size := Nat.mul_le_mul_right _ h2
            have hle3 : (i + 1) * e.size = i * e.size + e.size := by rw [Nat.add_mul]; omega
            have he := putBlk_ext (w := w) hap (.cells (spliceV cur.toList (o' + (i * e.size + off)) us).toArray ty (0, 0))
            have hrun := storeVar_run (P := P) (off := o' + (i * e.size + off)) (cs := cur.toList) (us := us) h4' hn hus (by rw [hud.length, hlen]) (by omega) (atoms_one hud hat)
            have gw : Grow ρ Φ1 w ρ Φ1 _ := Grow.world he (fun k _ hn => putBlk_other (fun e => hn ⟨b, _, hm, by rw [← e]; rfl⟩) _)
            refine ⟨_, Φ1, hrun, ?_, g1.trans gw⟩
            refine r1.turn hb rfl rfl hm he (fun j hj => putBlk_other (fun e' => hj (by rw [← e']; rfl)) _) ?_
            simp only [BlkOK]
            refine .inr ⟨q, o', c', _, by simp, h1, by simpa using h2, h3, putBlk_get (r1.lt hb hm rfl) _, by rw [List.size_toArray, spliceV_length (by omega)]; exact hcs, ?_⟩
            rw [List.length_set]
            simp only [List.toList_toArray]
            rw [drop_spliceV (by omega), take_splice hoff hin (by simp; omega)]
            have hrl : ((((cur.toList.drop o').take (xs.length * e.size)).drop (i * e.size)).take e.size).length = e.size := by simp; omega
            have h6' := h6.mono (fun d v hd => DenD.mono gw.ext gw.phi hd)
            refine rows_set (by rw [spliceV_length (by omega), hrl]) ?_ h6' hin
            refine DenD.mono gw.ext gw.phi (hrow _ hrl ?_)
            obtain ⟨row, e1, e2, e3⟩ := read_row h6 hin
            have : (((cur.toList.drop o').take (xs.length * e.size)).drop (i * e.size)).take e.size = row := by
              apply List.ext_getElem?
              intro j
              by_cases hj : j < e.size
              · rw [List.getElem?_take, if_pos hj, List.getElem?_drop]
                have hjr : j < row.length := by omega
                rw [e2 j row[j] (List.getElem?_eq_getElem hjr), List.getElem?_eq_getElem hjr]
              · rw [List.getElem?_eq_none (by omega), List.getElem?_eq_none (by omega)]
            rw [this]; exact e3
        unfold storeRow at h
        split at h
        · rename_i shs
          split at h
          · rename_i hoff
            have hoff' : off + vs.length ≤ shs.length := by simpa using hoff
            split at h
            · rename_i ds H1 hfr
              split at h
              · rename_i e' nl xs ty hb
                split at h
                · rename_i heq
                  have := Sh.beq_eq heq; subst this
                  simp only [Option.some.injEq] at h; subst h
                  obtain ⟨Φ1, r1, g1, d1, l1, _⟩ := freezeL_run _ _ _ _ _ hfr Φ hrel us hud
                  refine fin H1 Φ1 nl xs ty _ r1 g1 hb (by rw [hud.length]; exact hoff') ?_
                  intro row hrl hrow
                  simp only [Sh.isAgg, packV, DenD] at hrow ⊢
                  obtain ⟨vs', hv1, hv2⟩ := hrow
                  have : row = vs' := by simpa using hv1
                  subst this
                  refine ⟨_, rfl, ?_⟩
                  obtain ⟨q1, q2⟩ := DenDs_iff.1 hv2
                  have d2 := d1 (.a ds) 0 (fun i hi => by simp [D.at])
                  obtain ⟨p1, p2⟩ := DenDs_iff.1 d2
                  have hul : us.length = vs.length := hud.length
                  have hdl : ds.length = vs.length := (freezeL_length hfr).1
                  refine DenDs_iff.2 ⟨by rw [spliceV_length (by simp [Sh.size] at hrl; omega)]; simpa [Sh.size] using hrl, ?_⟩
                  intro k c hk
                  have hkl : k < shs.length := (List.getElem?_eq_some_iff.1 hk).1
                  rw [spliceV_get (by simp [Sh.size] at hrl; omega)]
                  have hat' : (D.a (updD (xs.getD i default) off ds shs.length 0)).at (0 + k) = if off ≤ k ∧ k < off + ds.length then ds.getD (k - off) default else (xs.getD i default).at k := by
                    have := updD_get (xs.getD i default) off ds shs.length 0 k hkl
                    simp only [Nat.zero_add] at this
                    show (updD (xs.getD i default) off ds shs.length 0).getD (0 + k) default = _
                    rw [Nat.zero_add, List.getD_eq_getElem?_getD, this, Option.getD_some]
                  rw [hat']
                  by_cases hin2 : off ≤ k ∧ k < off + us.length
                  · rw [if_pos hin2, if_pos (by omega)]
                    have hk2 : ((shs.drop off).take vs.length)[k - off]? = some c := by
                      rw [List.getElem?_take, if_pos (by omega), List.getElem?_drop]
                      have : off + (k - off) = k := by omega
                      rw [this]; exact hk
                    obtain ⟨v', h1, h2⟩ := p2 (k - off) c hk2
                    refine ⟨v', h1, ?_⟩
                    simpa [D.at] using h2
                  · rw [if_neg hin2, if_neg (by omega)]
                    obtain ⟨v', h1, h2⟩ := q2 k c hk
                    exact ⟨v', h1, by simpa using h2⟩
                · cases h
              · cases h
            · cases h
          · cases h
        · rename_i hne
          split at h
          · rename_i v' 
            split at h
            · rename_i d H1 hfr
              split at h
              · rename_i e2 nl xs ty hb
                split at h
                · rename_i heq
                  have := Sh.beq_eq heq; subst this
                  simp only [Option.some.injEq] at h; subst h
                  simp only [DenL] at hud
                  obtain ⟨u1, rest, rfl, hu1, hrest⟩ := hud
                  subst hrest
                  obtain ⟨Φ1, r1, g1, d1, l1, _⟩ := freeze_run _ _ _ _ _ hfr Φ hrel u1 hu1
                  have hs1 : e.size = 1 ∧ e.isAgg = false := by
                    cases e with
                    | agg cs => exact (hne cs rfl).elim
                    | _ => exact ⟨rfl, rfl⟩
                  refine fin H1 Φ1 nl xs ty d r1 g1 hb (by simp [hs1.1]) ?_
                  intro row hrl hrow
                  rw [hs1.1] at hrl
                  obtain ⟨r0, rfl⟩ := List.length_eq_one_iff.1 hrl
                  rw [hs1.2]
                  simpa [packV, spliceV] using d1
                · cases h
              · cases h
            · cases h
          · cases h
      · simp [Tree.run] at h
    · simp [Tree.run] at h
  · simp [Tree.run] at h
end
end Go.Sy
