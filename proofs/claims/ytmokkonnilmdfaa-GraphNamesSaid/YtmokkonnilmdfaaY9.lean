/-
  Operations that make or turn a block: as the model has them.
  No statement of the seat is proved here. Conditions: none.
-/
import Derived.Test.YtmokkonnilmdfaaY8
import Derived.Laws.AppendOwn
import Derived.Laws.OwnMore
set_option linter.unusedSimpArgs false
set_option linter.unusedVariables false
namespace Go.Sy
open Go.RowKit

section
variable {P : Program} {T : Tab} [GoodTab P T] {ρ : Names} {H : Hp} {Φ : Nat → Prop} {w : World} {eval : Operand → Value} {ev : Bool → Operand → Tree SV} {call : CallE}

theorem replicate_den {z : List SV} {vs : List Value} (h : DenL ρ Φ w z vs) : ∀ n : Nat, DenL ρ Φ w (List.replicate n z).flatten (List.replicate n vs).flatten
  | 0 => by simp [DenL]
  | n + 1 => by rw [List.replicate_succ, List.replicate_succ, List.flatten_cons, List.flatten_cons]; exact h.append (replicate_den h n)

theorem range_flatten (z : List Value) (n : Nat) (hz : z.length = n) (hn : 0 < n) : ∀ len : Nat, (List.range (len * n)).map (fun i => z.toArray[i % z.toArray.size]!) = (List.replicate len z).flatten
  | 0 => by simp
  | len + 1 => by
    have e : (len + 1) * n = n + len * n := by rw [Nat.add_mul]; omega
    rw [e, List.range_add, List.map_append, List.map_map, List.replicate_succ, List.flatten_cons, ← range_flatten z n hz hn len]
    congr 1
    · apply List.ext_getElem?
      intro i
      by_cases hi : i < n
      · simp [hi, hz, Nat.mod_eq_of_lt hi]
      · rw [List.getElem?_eq_none (by simp; omega), List.getElem?_eq_none (by omega)]
    · apply List.map_congr_left
      intro i _
      simp [hz]

theorem range_flatten_arr {zv : Value} {z : List Value} (hzc : zv.cells = z.toArray) (n : Nat) (hz : z.length = n) (hn : 0 < n) (len : Nat) :
    (Array.range (len * n)).map (fun i => zv.cells[i % zv.cells.size]!) = (List.replicate len z).flatten.toArray := by
  rw [hzc, ← range_flatten z n hz hn len]
  apply Array.ext'
  simp

theorem rows_replicate {R : D → Value → Prop} {ag : Bool} {sz : Nat} {d : D} {z : List Value} (hz : z.length = sz) (h : R d (packV ag z)) : ∀ n : Nat, RowsP R ag sz (List.replicate n d) (List.replicate n z).flatten
  | 0 => by simp [RowsP]
  | n + 1 => ⟨z, (List.replicate n z).flatten, by rw [List.replicate_succ, List.flatten_cons], hz, h, rows_replicate hz h n⟩

theorem rel_nothing (hphi : ∀ k, Φ k → k < w.heap.size) : Rel (fun _ => none) [] Φ w :=
  ⟨fun k b hk => by simp [hget] at hk, fun k b m g hk => by simp [hget] at hk, fun k b m g hk => by simp [hget] at hk, fun k k' b b' m m' g hk => by simp [hget] at hk, hphi, fun k m hk => by cases hk⟩

omit [GoodTab P T] in
theorem makeSlice_run {t u : TypeId} {i : TypeInfo} {zv : Value} {z : List Value} (ht : P.underlying t = some (.slice u)) (hi : P.info? u = some i) (hz : i.zero = some zv) (hzc : zv.cells = z.toArray) (hsz : z.length = i.size) (h0 : 0 < i.size)
    {k k' : IntKind} {n m : Int} (hn : 0 ≤ n) (hnm : n ≤ m) (hb : m.toNat * i.bytes ≤ 140737488355328) (hm : m.toNat ≤ 4611686018427387904) :
    (Instr.makeSlice t (.int k n) (.int k' m)).run P w = .ok (.slice (some ⟨w.heap.size, 0, none⟩) n.toNat m.toNat) (w.alloc (.cells (List.replicate m.toNat z).flatten.toArray u)) := by
  have w1 : IntKind.i64.wrap n = n := by simp [IntKind.wrap, IntKind.bits, IntKind.signed]; omega
  have w2 : IntKind.i64.wrap m = m := by simp [IntKind.wrap, IntKind.bits, IntKind.signed]; omega
  have hbi : (i.bytes : Int) * m ≤ 140737488355328 := by
    have e : ((m.toNat * i.bytes : Nat) : Int) = i.bytes * m := by rw [Int.natCast_mul, Int.toNat_of_nonneg (by omega), Int.mul_comm]
    rw [← e]; exact Int.ofNat_le.mpr hb
  have e48 : (2 : Int) ^ 48 = 281474976710656 := by decide
  have t1 : decide (m < 0) = false := decide_eq_false (by omega)
  have t2 : decide ((i.bytes : Int) * m > 2 ^ 48) = false := decide_eq_false (by rw [e48]; omega)
  have t3 : decide (n < 0) = false := decide_eq_false (by omega)
  have t4 : decide (n > m) = false := decide_eq_false (by omega)
  have room : ¬ m.toNat * i.bytes > roomBytes := by
    have : roomBytes = 140737488355328 := by decide
    omega
  have hfl := range_flatten_arr hzc i.size hsz h0 m.toNat
  unfold Instr.makeSlice
  simp only [Sem.run_bind, run_und ht, Result.andThen_ok, asInt, asIntOf, Sem.run_pure, typeInfo, program, Sem.run, hi, pure, w1, w2]
  rw [if_neg (by rw [t1, t2, t3, t4]; simp)]
  simp only [askRoom, if_neg room, Sem.run_bind, Sem.run_pure, Result.andThen_ok, sizeOf, typeInfo, program, Sem.run, hi, pure, zeroValue, hz]
  by_cases hz0 : m.toNat * i.size = 0
  · have hm0 : m.toNat = 0 := by
      rcases Nat.mul_eq_zero.1 hz0 with h | h
      · exact h
      · omega
    have r0 : Array.range 0 = #[] := rfl
    simp [hm0, newRow_run, newRow, newObj, Sem.run, r0] <;> rfl
  · simp only [if_neg hz0, Sem.run_pure, Sem.run_bind, Result.andThen_ok, Sem.run, hi, hz, pure]
    rw [hfl]
    simp only [newRow, newObj, Sem.run_bind, Sem.run, Result.andThen_ok, Sem.run_pure]
    rfl

omit [GoodTab P T] in
theorem evsP_nil {f : Operand → Tree SV} : ∀ {l : List (Nat × Operand)}, (evsP f l).run = some [] → l = []
  | [], _ => rfl
  | (i, x) :: r, h => by
    simp only [evsP] at h
    obtain ⟨v, _, h⟩ := Tree.run_bind h
    obtain ⟨vs, _, h⟩ := Tree.run_bind h
    simp [Tree.run] at h

/-- An operation that makes a block. -/
theorem newOp_run {o : Oper} {nm : Nat} {s : Slot} {b : Blk} (hphi : ∀ k, Φ k → k < w.heap.size) (hk : ∀ x ∈ o.op.operands, Knows ev eval ρ Φ w x) (h : (opE T call ev H nm o.op).run = some (s, .new b)) :
    b.ro = false ∧ ∃ sv x ob m, s = .is sv ∧ (execOp eval o).run P w = .ok (.value x) (w.alloc ob) ∧ (∀ q, m.block = some q → q = w.heap.size) ∧
      ∀ ρ' : Names, ρ' nm = some m → Grow ρ Φ w ρ' Φ (w.alloc ob) → BlkOK ρ' Φ (w.alloc ob) m b ∧ Den ρ' Φ (w.alloc ob) sv x := by
  have newcell : ∀ (vs : List Value) (cs : List SV) (t : TypeId), DenL ρ Φ w cs vs → ∀ ρ' : Names, ρ' nm = some (.blk w.heap.size) → Grow ρ Φ w ρ' Φ (w.alloc (.cells vs.toArray t)) → BlkOK ρ' Φ (w.alloc (.cells vs.toArray t)) (.blk w.heap.size) ⟨.cells cs, t, false⟩ := by
    intro vs cs t hd ρ' _ g
    simp only [BlkOK]
    exact ⟨_, vs, rfl, by show (w.heap.push _)[w.heap.size]? = _; simp, hd.mono g⟩
  have pc : (opE T call ev H nm o.op) = (match sysE T (ev true) H o.op with
      | some t => t.bind fun r => Tree.ret (Slot.is r.1, Eff.all r.2)
      | none => (pureOp T ev true H o.op).bind fun v => Tree.ret (Slot.is v, Eff.none)) → b.ro = false ∧ ∃ sv x ob m, s = .is sv ∧ (execOp eval o).run P w = .ok (.value x) (w.alloc ob) ∧ (∀ q, m.block = some q → q = w.heap.size) ∧
      ∀ ρ' : Names, ρ' nm = some m → Grow ρ Φ w ρ' Φ (w.alloc ob) → BlkOK ρ' Φ (w.alloc ob) m b ∧ Den ρ' Φ (w.alloc ob) sv x := by
    intro he
    rw [he] at h
    split at h
    · obtain ⟨v, h1, h2⟩ := Tree.run_bind h
      simp [Tree.run] at h2
    · obtain ⟨v, h1, h2⟩ := Tree.run_bind h
      simp [Tree.run] at h2
  obtain ⟨dst, op, ty, pos, after, guard⟩ := o
  simp only at h hk pc ⊢
  cases op
  case call c =>
    obtain ⟨callee, args, argTypes⟩ := c
    cases callee
    case value f =>
      simp only [opE] at h
      obtain ⟨fv, _, h2⟩ := Tree.run_bind h
      split at h2
      · obtain ⟨as, _, h4⟩ := Tree.run_bind h2
        obtain ⟨r, h5, h6⟩ := Tree.run_bind h4
        simp [Tree.run] at h6
      · simp [Tree.run] at h2
    case builtin bi =>
      cases bi
      case append =>
        simp only [opE] at h
        split at h
        · split at h
          · obtain ⟨_, _, h⟩ := Tree.run_bind h
            obtain ⟨_, _, h⟩ := Tree.run_bind h
            obtain ⟨_, _, h⟩ := Tree.run_bind h
            simp [Tree.run] at h
          · simp [Tree.run] at h
        · simp [Tree.run] at h
      all_goals exact pc rfl
    all_goals exact pc rfl
  case alloc t =>
    simp only [opE] at h
    split at h
    · rename_i z hz
      simp only [Tree.run, Option.some.injEq, Prod.mk.injEq, Eff.new.injEq] at h
      obtain ⟨rfl, rfl⟩ := h
      obtain ⟨v, vs, hv, hc, hd⟩ := zeroL_run (P := P) hz
      refine ⟨rfl, _, .pointer (some ⟨w.heap.size, 0, none⟩), .cells vs.toArray t, .blk w.heap.size, rfl, ?_, fun q hq => by simpa [Nm.block] using hq.symm, fun ρ' h1 g => ⟨newcell vs z t (hd ρ Φ w) ρ' h1 g, by simp only [Den]; exact ⟨_, h1, rfl⟩⟩⟩
      simp only [execOp]
      rw [Sem.run_bind]
      unfold Instr.alloc
      rw [Sem.run_bind, hv, Result.andThen_ok]
      simp only [newVar, hc]
      rw [Sem.run_bind, newRow_run, Result.andThen_ok]
      rfl
    · simp [Tree.run] at h
  case box t y =>
    simp only [opE] at h
    obtain ⟨v, h1, h2⟩ := Tree.run_bind h
    have hy := hk y (by simp [Op.operands]) true v h1 rfl
    split at h2
    · rename_i cs hf
      simp only [Tree.run, Option.some.injEq, Prod.mk.injEq, Eff.new.injEq] at h2
      obtain ⟨rfl, rfl⟩ := h2
      obtain ⟨vs, hc, hd⟩ := flat_cells hf hy
      refine ⟨rfl, _, .pointer (some ⟨w.heap.size, 0, none⟩), .cells vs.toArray t, .blk w.heap.size, rfl, ?_, fun q hq => by simpa [Nm.block] using hq.symm, fun ρ' h1 g => ⟨newcell vs cs t hd ρ' h1 g, by simp only [Den]; exact ⟨_, h1, rfl⟩⟩⟩
      simp only [execOp, Instr.box, newVar, hc]
      rw [Sem.run_bind, Sem.run_bind, newRow_run]
      rfl
    · simp [Tree.run] at h2
  case store t y z =>
    simp only [opE] at h
    obtain ⟨_, _, h⟩ := Tree.run_bind h
    obtain ⟨_, _, h⟩ := Tree.run_bind h
    obtain ⟨_, _, h⟩ := Tree.run_bind h
    simp [Tree.run] at h
  case buildSlice t len parts =>
    simp only [opE] at h
    obtain ⟨vs, h1, h2⟩ := Tree.run_bind h
    have m1 : ∀ x ∈ parts.toList, x.2 ∈ (Op.buildSlice t len parts).operands := by
      intro x hx; simp only [Op.operands, List.mem_toArray, List.mem_map]; exact ⟨x, hx, rfl⟩
    have e1 := evsP_run (ρ := ρ) (Φ := Φ) (w := w) (ev true) eval parts.toList vs (fun y hy v hv => hk y.2 (m1 y hy) true v hv rfl) h1
    split at h2
    · rename_i e hu
      split at h2
      · rename_i n z hn hz
        split at h2
        · rename_i hc
          simp only [Bool.and_eq_true, Nat.ble_eq, Bool.not_eq_true', beq_eq_false_iff_ne, ne_eq, beq_iff_eq] at hc
          obtain ⟨⟨hle, hne⟩, hzl⟩ := hc
          split at h2
          · rename_i cs hf
            simp only [Tree.run, Option.some.injEq, Prod.mk.injEq, Eff.new.injEq] at h2
            obtain ⟨rfl, rfl⟩ := h2
            obtain ⟨zv, zs, hzr, hzc, hzd⟩ := zeroL_run (P := P) hz
            have hzn : zs.length = n := by rw [(hzd ρ Φ w).length, hzl]
            have hn0 : 0 < n := by
              rcases Nat.eq_zero_or_pos n with h0 | h0
              · subst h0; simp at hne
              · exact h0
            obtain ⟨us, hu1, hu2⟩ := fillL_run hf e1 (replicate_den (hzd ρ Φ w) len)
            have hcells := range_flatten_arr hzc n hzn hn0 len
            refine ⟨rfl, _, .slice (some ⟨w.heap.size, 0, none⟩) len len, .cells us.toArray e, .blk w.heap.size, rfl, ?_, fun q hq => by simpa [Nm.block] using hq.symm, fun ρ' h1 g => ⟨newcell us cs e hu2 ρ' h1 g, by simp only [Den]; exact ⟨_, h1, rfl⟩⟩⟩
            have a1 : parts.map (fun y => (y.1, eval y.2)) = (parts.toList.map (fun y => (y.1, eval y.2))).toArray := by rw [← Array.toList_map, Array.toArray_toList]
            simp only [execOp, a1, Instr.buildSlice]
            rw [Sem.run_bind, Sem.run_bind, run_underlying' hu, Result.andThen_ok]
            simp only [Sem.run_bind, sizeT_run hn, Result.andThen_ok]
            rw [if_neg (by omega), if_neg hne]
            simp only [Sem.run_bind, hzr, Result.andThen_ok, Sem.run_pure]
            simp only [hcells]
            simp only [hu1]
            simp only [Sem.run_bind, newRow_run, Result.andThen_ok, Sem.run_pure]
          · simp [Tree.run] at h2
        · split at h2
          · simp only [Tree.run, Option.some.injEq, Prod.mk.injEq, Eff.new.injEq] at h2
            obtain ⟨rfl, rfl⟩ := h2
            have hpt : parts.toList = [] := evsP_nil h1
            have hpa : parts = #[] := by rw [← Array.toArray_toList (xs := parts), hpt]
            subst hpa
            obtain ⟨zv, zs, hzr, hzc, hzd⟩ := zeroL_run (P := P) hz
            refine ⟨rfl, _, .slice (some ⟨w.heap.size, 0, none⟩) 0 0, .cells ([] : List Value).toArray e, .blk w.heap.size, rfl, ?_, fun q hq => by simpa [Nm.block] using hq.symm, fun ρ' h1 g => ⟨newcell [] [] e .nil ρ' h1 g, by simp only [Den]; exact ⟨_, rfl, rfl⟩⟩⟩
            simp only [execOp, Instr.buildSlice]
            rw [Sem.run_bind, Sem.run_bind, run_underlying' hu, Result.andThen_ok]
            simp [Sem.run_bind, sizeT_run hn, Result.andThen_ok, Sem.run_pure, newRow_run]
            have r0 : (Array.map (fun (_ : Nat) => (default : Value)) (Array.range 0)) = #[] := by simp
            rw [r0]
            simp only [Instr.fill]
            rfl
          · simp [Tree.run] at h2
      · simp [Tree.run] at h2
    · simp [Tree.run] at h2
  case makeSlice t y z =>
    simp only [opE] at h
    obtain ⟨vn, h1, h⟩ := Tree.run_bind h
    obtain ⟨vc, h2, h⟩ := Tree.run_bind h
    obtain ⟨r, h3, h⟩ := Tree.run_bind h
    simp only [Tree.run, Option.some.injEq, Prod.mk.injEq, Eff.new.injEq] at h
    obtain ⟨rfl, rfl⟩ := h
    have hy := hk y (by simp [Op.operands]) true vn h1 rfl
    have hz := hk z (by simp [Op.operands]) true vc h2 rfl
    unfold makeE at h3
    split at h3
    · rename_i u hu
      split at h3
      · rename_i e by_ zl hsh hby hzl
        split at h3
        · rename_i ut d k n k' m hrt hfr hn hm
          obtain ⟨r1, r2, r3⟩ := rowT_run hrt
          rw [hu] at r1; simp only [Option.some.injEq, TypeDesc.slice.injEq] at r1; subst r1
          split at h3
          · simp [Tree.run] at h3
          · rename_i hnz
            simp only [Bool.and_eq_true, Nat.beq_eq, Bool.not_eq_true'] at hnz
            have hnz' : 0 < e.size := Nat.pos_of_ne_zero (nbf.1 hnz.2)
            obtain ⟨hc, h3⟩ := Tree.run_need h3
            simp only [Bool.and_eq_true, decide_eq_true_eq, roomFor] at hc
            obtain ⟨c1, c2, c3, c4⟩ := hc
            simp only [Tree.run, Option.some.injEq] at h3; subst h3
            have en := int?_den hn hy
            have em := int?_den hm hz
            obtain ⟨i, hi, his⟩ := info_of (P := P) r2
            have hu0 := und_of (P := P) hu
            have hib : i.bytes = by_ ∧ ∃ zv, i.zero = some zv ∧ zv.cells.toList.map ofCell = zl := by
              unfold bytesT at hby
              unfold zeroL at hzl
              cases hr : T.row u with
              | none => simp [hr] at hby
              | some rr =>
                simp only [hr, Option.some.injEq] at hby hzl
                obtain ⟨_, ⟨i', hi', _, h3, h4⟩, _⟩ := GoodTab.row (P := P) u rr hr
                rw [hi] at hi'; simp only [Option.some.injEq] at hi'; subst hi'
                exact ⟨by rw [h3, hby], h4 zl hzl⟩
            obtain ⟨hib, zv0, hz0, _⟩ := hib
            subst hib
            obtain ⟨zv, zs, hzr, hzc, hzd⟩ := zeroL_run (P := P) hzl
            have hzz : i.zero = some zv := by
              have := hzr w
              unfold zeroValue typeInfo program at this
              simp [Sem.run, hi, hz0, pure] at this
              rw [hz0, this]
            have r2 := his
            have hzn : zs.length = e.size := by rw [(hzd ρ Φ w).length]; exact hnz.1
            -- the zero row
            obtain ⟨Φ', _, g', d', _, n'⟩ := freeze_run (ρ := fun _ => none) (w := w.alloc (.cells (List.replicate m.toNat zs).flatten.toArray u)) e _ [] d [] hfr (fun _ => False) (rel_nothing (fun k hk => hk.elim)) (packV e.isAgg zs) (by
              have hq := hzd (fun _ => none) (fun _ => False) (w.alloc (.cells (List.replicate m.toNat zs).flatten.toArray u))
              cases hag : e.isAgg with
              | true => simp only [packV, Den]; exact ⟨zs, rfl, hq⟩
              | false =>
                simp only [packV]
                cases zl with
                | nil => simp at hnz; omega
                | cons c r => simp only [DenL] at hq; obtain ⟨v, rest, rfl, hv, _⟩ := hq; simpa using hv)
            have hP : ∀ k, Φ' k → Φ k := fun k hk => (n' k hk).elim (fun x => x.elim) (fun ⟨_, _, h, _⟩ => by cases h)
            have dz : DenD Φ (w.alloc (.cells (List.replicate m.toNat zs).flatten.toArray u)) e d (packV e.isAgg zs) := DenD.mono (Ext.refl _ _) hP d'
            refine ⟨rfl, _, .slice (some ⟨w.heap.size, 0, none⟩) n.toNat m.toNat, .cells (List.replicate m.toNat zs).flatten.toArray u, .row w.heap.size 0 n.toNat m.toNat, rfl, ?_, fun q hq => by simpa [Nm.block] using hq.symm, fun ρ' h1 g => ⟨?_, ?_⟩⟩
            · simp only [execOp, en, em]
              rw [Sem.run_bind, makeSlice_run hu0 hi hzz hzc (by rw [hzn, r2]) (by omega) c1 c2 c3 c4, Result.andThen_ok]
              rfl
            · simp only [BlkOK]
              refine .inr ⟨w.heap.size, 0, m.toNat, (List.replicate m.toNat zs).flatten.toArray, by rw [List.length_replicate], trivial, by rw [List.length_replicate]; omega, Nat.le_trans c4 (by decide), by show (w.heap.push _)[w.heap.size]? = _; simp, ?_, ?_⟩
              · simp [hzn]
              · have hl : (((List.replicate m.toNat zs).flatten.toArray.toList.drop 0).take ((List.replicate n.toNat d).length * e.size)) = (List.replicate n.toNat zs).flatten := by
                  have hsp : m.toNat = n.toNat + (m.toNat - n.toNat) := by omega
                  rw [List.drop_zero]
                  rw [hsp, ← List.replicate_append_replicate, List.flatten_append, List.length_replicate]
                  have : (List.replicate n.toNat zs).flatten.length = n.toNat * e.size := by simp [hzn]
                  rw [← this]
                  exact List.take_left
                rw [hl]
                exact rows_replicate hzn dz n.toNat
            · simp only [Den]
              exact .inl ⟨_, _, _, _, h1, rfl⟩
        · simp [Tree.run] at h3
      · simp [Tree.run] at h3
    · simp [Tree.run] at h3
  all_goals exact pc rfl
end
end Go.Sy
