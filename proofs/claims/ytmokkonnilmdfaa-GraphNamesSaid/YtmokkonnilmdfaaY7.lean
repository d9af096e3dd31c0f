/-
  Slice expressions, indexes; an operation that turns nothing in memory, whole ('pureOp_run').
  No statement of the seat is proved here. Conditions: none.
-/
import Derived.Test.YtmokkonnilmdfaaY29
import Derived.Laws.BytesString
set_option linter.unusedSimpArgs false
set_option linter.unusedVariables false
namespace Go.Sy
open Go.RowKit

section
variable {P : Program} {T : Tab} [GoodTab P T] {ρ : Names} {H : Hp} {Φ : Nat → Prop} {w : World} {eval : Operand → Value} {ev : Bool → Operand → Tree SV}

theorem sliceBound_run {k : IntKind} {n : Int} {y : Nat} {code : BoundsCode} (h0 : 0 ≤ n) (h1 : n ≤ (y : Int)) : (Instr.sliceBound (.int k n) y code).run P w = .ok n.toNat w := by
  simp [Instr.sliceBound, asIntOf, h0, h1]

theorem boundE_run {z n : Int} {o : Option Operand} (hk : ∀ x, o = some x → Knows ev eval ρ Φ w x) (h : (boundE (ev true) z o).run = some n) :
    (o = none ∧ n = z) ∨ ∃ x k, o = some x ∧ eval x = .int k n := by
  cases o with
  | none => simp only [boundE, Tree.run, Option.some.injEq] at h; exact .inl ⟨rfl, h.symm⟩
  | some x =>
    simp only [boundE] at h
    obtain ⟨v, h1, h2⟩ := Tree.run_bind h
    have hd := hk x rfl true v h1 rfl
    unfold intAt at h2
    split at h2
    · rename_i k m hv
      simp only [Tree.run, Option.some.injEq] at h2; subst h2
      exact .inr ⟨x, k, rfl, int?_den hv hd⟩
    · simp [Tree.run] at h2

theorem sliceBounds_run {isSlice : Bool} {len cap : Nat} {lo hi mx : Option Operand} {l h m : Int} (hcm : ¬ (hi = none ∧ mx ≠ none))
    (hm : (mx = none ∧ m = (cap : Int)) ∨ ∃ x k, mx = some x ∧ eval x = .int k m) (hh : (hi = none ∧ h = (len : Int)) ∨ ∃ x k, hi = some x ∧ eval x = .int k h) (hl : (lo = none ∧ l = 0) ∨ ∃ x k, lo = some x ∧ eval x = .int k l)
    (h0 : 0 ≤ l) (h1 : l ≤ h) (h2 : h ≤ m) (h3 : m ≤ (cap : Int)) :
    (Instr.sliceBounds isSlice len cap (lo.map eval) (hi.map eval) (mx.map eval)).run P w = .ok (l.toNat, h.toNat, m.toNat) w := by
  unfold Instr.sliceBounds
  have em : m = ((m.toNat : Nat) : Int) := by omega
  have eh : h = ((h.toNat : Nat) : Int) := by omega
  rcases hm with ⟨rfl, hm⟩ | ⟨x, k, rfl, hx⟩
  · subst hm
    rcases hh with ⟨rfl, hh⟩ | ⟨y, k2, rfl, hy⟩
    · subst hh
      rcases hl with ⟨rfl, hl⟩ | ⟨z, k3, rfl, hz⟩
      · subst hl; simp
      · simp only [Option.map_none, Option.map_some, hz, Sem.run_bind, Sem.run_pure, Result.andThen_ok]
        rw [sliceBound_run h0 (by omega)]; simp
    · rcases hl with ⟨rfl, hl⟩ | ⟨z, k3, rfl, hz⟩
      · subst hl
        simp only [Option.map_none, Option.map_some, hy, Sem.run_bind, Sem.run_pure, Result.andThen_ok]
        rw [sliceBound_run (by omega) (by omega)]; simp
      · simp only [Option.map_none, Option.map_some, hy, hz, Sem.run_bind, Sem.run_pure, Result.andThen_ok]
        rw [sliceBound_run (by omega) (by omega)]
        simp only [Result.andThen_ok]
        rw [sliceBound_run h0 (by omega)]; simp
  · rcases hh with ⟨rfl, hh⟩ | ⟨y, k2, rfl, hy⟩
    · exact absurd ⟨rfl, by simp⟩ hcm
    · rcases hl with ⟨rfl, hl⟩ | ⟨z, k3, rfl, hz⟩
      · subst hl
        simp only [Option.map_none, Option.map_some, hx, hy, Sem.run_bind, Sem.run_pure, Result.andThen_ok]
        rw [sliceBound_run (by omega) (by omega)]
        simp only [Result.andThen_ok]
        rw [sliceBound_run (by omega) (by omega)]; simp
      · simp only [Option.map_none, Option.map_some, hx, hy, hz, Sem.run_bind, Sem.run_pure, Result.andThen_ok]
        rw [sliceBound_run (by omega) (by omega)]
        simp only [Result.andThen_ok]
        rw [sliceBound_run (by omega) (by omega)]
        simp only [Result.andThen_ok]
        rw [sliceBound_run h0 (by omega)]; simp

theorem ReadP.part {R : D → Value → Prop} {ag : Bool} {sz : Nat} {xs : List D} {p : Addr} (h : ReadP Φ w R ag sz xs p) (l n : Nat) (hn : n ≤ xs.length) : ReadP Φ w R ag sz ((xs.take n).drop l) (p.add (l * sz)) := by
  obtain ⟨h1, h2, fl, h3, h4⟩ := h
  have hp : p = ⟨p.block, p.off, none⟩ := by cases p; simp_all
  rw [hp, addr_add]
  refine ⟨rfl, h2, _, (h3.take n).drop l, ?_⟩
  intro j u hu
  rw [List.getElem?_drop, List.getElem?_take] at hu
  split at hu
  · have := h4 _ u hu
    rwa [← Nat.add_assoc] at this
  · cases hu

theorem noHi_spec {hi mx : Option Operand} (h : noHi hi mx = false) : ¬ (hi = none ∧ mx ≠ none) := by
  cases hi <;> cases mx <;> simp_all [noHi]

theorem noRoom_den {vm : SV} {nl : Bool} {a : Option Addr} {l h m : Nat} (h1 : l ≤ h) (h2 : h ≤ m) (hm : ∀ k n, vm = .li k n → m = n.toNat) (hn : nl = a.isNone) (sz : Nat) :
    Den ρ Φ w (noRoom nl vm) (.slice (if m = l then a else a.map (·.add (l * sz))) (h - l) (m - l)) := by
  unfold noRoom
  split
  · have := hm _ _ rfl
    simp only [Int.ofNat_eq_natCast, Int.toNat_natCast] at this
    have e1 : m = 0 := by simpa using this
    subst e1
    obtain rfl : h = 0 := by omega
    obtain rfl : l = 0 := by omega
    simp only [Den]
    exact ⟨a, hn, by simp⟩
  · simp [Den]
/-- A part of a list. -/
theorem partE_run {nl : Bool} {len full cap sz : Nat} {k kc : Nat → Nat → SV} {lo hi mx : Option Operand} {v : SV} {t u' : TypeId} {a : Option Addr} (hu : T.underlying t = some (.slice u')) (hsz : sizeT T u' = some sz)
    (hlo : ∀ y, lo = some y → Knows ev eval ρ Φ w y) (hhi : ∀ y, hi = some y → Knows ev eval ρ Φ w y) (hmx : ∀ y, mx = some y → Knows ev eval ρ Φ w y)
    (hfull : full ≤ cap) (hn : nl = a.isNone) (h : (partE (ev true) nl len full k kc lo hi mx).run = some v)
    (hk : ∀ l h : Nat, l ≤ h → h ≤ full → Den ρ Φ w (k l h) (.slice (if cap = l then a else a.map (·.add (l * sz))) (h - l) (cap - l)))
    (hkc : ∀ l h : Nat, l ≤ h → h ≤ full → Den ρ Φ w (kc l h) (.slice (if h = l then a else a.map (·.add (l * sz))) (h - l) (h - l))) :
    ∃ r, (Instr.sliceAt t (.slice a len cap) (lo.map eval) (hi.map eval) (mx.map eval)).run P w = .ok r w ∧ Den ρ Φ w v r := by
  have run : ∀ (l h m : Nat), (Instr.sliceBounds true len cap (lo.map eval) (hi.map eval) (mx.map eval)).run P w = .ok (l, h, m) w →
      (Instr.sliceAt t (.slice a len cap) (lo.map eval) (hi.map eval) (mx.map eval)).run P w = .ok (.slice (if m = l then a else a.map (·.add (l * sz))) (h - l) (m - l)) w := by
    intro l h m hb
    unfold Instr.sliceAt
    rw [Sem.run_bind, run_underlying' hu, Result.andThen_ok]
    simp only [Instr.slice]
    rw [Sem.run_bind, run_underlying' hu, Result.andThen_ok]
    simp only [Sem.run_bind, hb, Result.andThen_ok, sizeT_run hsz, Sem.run_pure]
  unfold partE at h
  split at h
  · obtain ⟨hv, b1, h⟩ := Tree.run_bind h
    obtain ⟨lv, b2, h⟩ := Tree.run_bind h
    obtain ⟨hc, h⟩ := Tree.run_need h
    simp only [Bool.and_eq_true, decide_eq_true_eq] at hc
    obtain ⟨c1, c2, c3⟩ := hc
    simp only [Tree.run, Option.some.injEq] at h; subst h
    have hb := sliceBounds_run (P := P) (w := w) (isSlice := true) (len := len) (cap := cap) (mx := none) (m := (cap : Int)) (by simp) (.inl ⟨rfl, rfl⟩) (boundE_run hhi b1) (boundE_run hlo b2) c1 c2 (by omega) (Int.le_refl _)
    simp only [Int.toNat_natCast] at hb
    exact ⟨_, run _ _ _ hb, hk _ _ (by omega) (by omega)⟩
  · rename_i o ho
    obtain ⟨vm, b0, h⟩ := Tree.run_bind h
    obtain ⟨hv, b1, h⟩ := Tree.run_bind h
    obtain ⟨lv, b2, h⟩ := Tree.run_bind h
    split at h
    · rename_i km m hm
      have hd := hmx o rfl true vm b0 rfl
      have he := int?_den hm hd
      split at h
      · obtain ⟨hc, h⟩ := Tree.run_need h
        simp only [Bool.and_eq_true, decide_eq_true_eq] at hc
        obtain ⟨c1, c2, c3, c4⟩ := hc
        simp only [Tree.run, Option.some.injEq] at h; subst h
        subst c3
        have hb := sliceBounds_run (P := P) (w := w) (isSlice := true) (len := len) (cap := cap) (mx := some o) (m := hv) (by simp) (.inr ⟨o, km, rfl, he⟩) (boundE_run hhi b1) (boundE_run hlo b2) c1 c2 (Int.le_refl _) (by omega)
        exact ⟨_, run _ _ _ hb, hkc _ _ (by omega) (by omega)⟩
      · rename_i hnr
        obtain ⟨hc, h⟩ := Tree.run_need h
        simp only [Bool.and_eq_true, decide_eq_true_eq] at hc
        obtain ⟨c1, c2, c3, c4⟩ := hc
        simp only [Tree.run, Option.some.injEq] at h; subst h
        have hb := sliceBounds_run (P := P) (w := w) (isSlice := true) (len := len) (cap := cap) (mx := some o) (m := m) (by simp) (.inr ⟨o, km, rfl, he⟩) (boundE_run hhi b1) (boundE_run hlo b2) c1 c2 c3 (by omega)
        refine ⟨_, run _ _ _ hb, noRoom_den (by omega) (by omega) (fun k' n hn' => ?_) hn _⟩
        subst hn'
        simp only [SV.int?, Option.some.injEq, Prod.mk.injEq] at hm
        rw [hm.2]
    · simp [Tree.run] at h
  · simp [Tree.run] at h

theorem sliceE_run (hrel : Own ρ H Φ w) {t : TypeId} {x v : SV} {u : Value} {lo hi mx : Option Operand} (hlo : ∀ y, lo = some y → Knows ev eval ρ Φ w y) (hhi : ∀ y, hi = some y → Knows ev eval ρ Φ w y) (hmx : ∀ y, mx = some y → Knows ev eval ρ Φ w y)
    (hx : Den ρ Φ w x u) (h : (sliceE T H (ev true) t x lo hi mx).run = some v) : ∃ r, (Instr.sliceAt t u (lo.map eval) (hi.map eval) (mx.map eval)).run P w = .ok r w ∧ Den ρ Φ w v r := by
  unfold sliceE at h
  split at h
  · rename_i s hu
    split at h
    · simp [Tree.run] at h
    rename_i hmn
    obtain rfl : mx = none := by simpa using hmn
    obtain ⟨hv, b1, h⟩ := Tree.run_bind h
    obtain ⟨lv, b2, h⟩ := Tree.run_bind h
    obtain ⟨hc, h⟩ := Tree.run_need h
    simp only [Bool.and_eq_true, decide_eq_true_eq] at hc
    obtain ⟨c1, c2, c3⟩ := hc
    simp only [Tree.run, Option.some.injEq] at h; subst h
    simp only [Den] at hx; subst hx
    have hb := sliceBounds_run (P := P) (w := w) (isSlice := false) (len := s.length) (cap := s.length) (mx := none) (m := (s.length : Int)) (by simp) (.inl ⟨rfl, rfl⟩) (boundE_run hhi b1) (boundE_run hlo b2) c1 c2 c3 (Int.le_refl _)
    refine ⟨.string ⟨((s.take hv.toNat).drop lv.toNat).toArray⟩, ?_, by simp [Den]⟩
    unfold Instr.sliceAt
    rw [Sem.run_bind, run_underlying' hu, Result.andThen_ok]
    simp only [Instr.slice, Option.map_none]
    rw [Sem.run_bind, run_underlying' hu, Result.andThen_ok]
    simp only [Option.map_none] at hb
    simp only [Option.isSome_none, Bool.false_eq_true, if_false, ba_size, Sem.run_bind, hb, Result.andThen_ok, Sem.run_pure, ba_extract]
  · rename_i u' e nl xs hu
    split at h
    · rename_i ut hmn hrt
      obtain rfl : mx = none := by simpa using hmn
      obtain ⟨r1, r2, r3⟩ := rowT_run hrt
      obtain ⟨hv, b1, h⟩ := Tree.run_bind h
      obtain ⟨lv, b2, h⟩ := Tree.run_bind h
      obtain ⟨hc, h⟩ := Tree.run_need h
      simp only [Bool.and_eq_true, decide_eq_true_eq] at hc
      obtain ⟨c1, c2, c3⟩ := hc
      simp only [Tree.run, Option.some.injEq] at h; subst h
      simp only [Den, DenD, D.nl, D.xs] at hx
      obtain ⟨a, cap, rfl, l1, l2, l3, l4, l5⟩ := hx
      have hb := sliceBounds_run (P := P) (w := w) (isSlice := true) (len := xs.length) (cap := cap) (mx := none) (m := (cap : Int)) (by simp) (.inl ⟨rfl, rfl⟩) (boundE_run hhi b1) (boundE_run hlo b2) c1 c2 (by omega) (Int.le_refl _)
      have hlen : ((xs.take hv.toNat).drop lv.toNat).length = hv.toNat - lv.toNat := by simp; omega
      refine ⟨.slice (if cap = lv.toNat then a else a.map (·.add (lv.toNat * e.size))) (hv.toNat - lv.toNat) (cap - lv.toNat), ?_, ?_⟩
      · unfold Instr.sliceAt
        rw [Sem.run_bind, run_underlying' hu, Result.andThen_ok]
        simp only [Instr.slice, Option.map_none]
        rw [Sem.run_bind, run_underlying' hu, Result.andThen_ok]
        simp only [Option.map_none, Int.toNat_natCast] at hb
        rw [r1] at hu; simp only [Option.some.injEq, TypeDesc.slice.injEq] at hu; subst hu
        simp only [Sem.run_bind, hb, Result.andThen_ok, sizeT_run r2, Sem.run_pure]
      · simp only [Den, DenD, D.nl, D.xs]
        refine ⟨_, cap - lv.toNat, by rw [hlen], by rw [hlen]; omega, by omega, ?_, ?_, ?_⟩
        · rw [l3]; split <;> simp
        · intro hn
          have ha : a = none := by
            split at hn
            · exact hn
            · simpa using hn
          obtain ⟨rfl, rfl⟩ := l4 ha
          simp
        · intro p hp hne
          have hxs : xs ≠ [] := by rintro rfl; simp at hne
          split at hp
          · rename_i hcl
            have : (xs.take hv.toNat).drop lv.toNat = [] := List.length_eq_zero_iff.1 (by rw [hlen]; omega)
            exact absurd this hne
          · simp only [Option.map_eq_some_iff] at hp
            obtain ⟨p0, hp0, rfl⟩ := hp
            exact (l5 p0 hp0 hxs).part lv.toNat hv.toNat (by omega)
    · rename_i ut hmn hrt
      obtain ⟨r1, r2, r3⟩ := rowT_run hrt
      simp only [Den, DenD, D.nl, D.xs] at hx
      obtain ⟨a, cap, rfl, l1, l2, l3, l4, l5⟩ := hx
      have hn : nl = a.isNone := by cases a <;> cases nl <;> simp_all
      exact partE_run r1 r2 hlo hhi hmx l1 hn h (fun _ _ _ _ => by simp [Den]) (fun _ _ _ _ => by simp [Den])
    · simp [Tree.run] at h
  · rename_i u' b hu
    split at h
    · rename_i e nl xs ty' ro hb
      split at h
      · rename_i ut hrt
        obtain ⟨r1, r2, r3⟩ := rowT_run hrt
        obtain ⟨m, hm, hok⟩ := hrel _ _ hb
        simp only [Den] at hx
        simp only [BlkOK] at hok
        rcases hok with ⟨a, rfl, rfl, rfl⟩ | ⟨g, o, c, cur, rfl, rfl, h2, h3, h4, h5, h6⟩
        · rcases hx with ⟨_, _, _, _, h1, _⟩ | ⟨a', h1, rfl⟩
          · rw [hm] at h1; cases h1
          · rw [hm] at h1; simp only [Option.some.injEq, Nm.emp.injEq] at h1; subst h1
            refine partE_run r1 r2 hlo hhi hmx (Nat.le_refl _) rfl h (fun l h' e1 e2 => ?_) (fun l h' e1 e2 => ?_)
            · obtain rfl : h' = 0 := by simpa using e2
              obtain rfl : l = 0 := by omega
              simp only [Den]
              exact .inr ⟨_, hm, trivial, trivial, by simp⟩
            · obtain rfl : h' = 0 := by simpa using e2
              obtain rfl : l = 0 := by omega
              simp only [Den]
              exact .inr ⟨_, hm, trivial, trivial, by simp⟩
        · rcases hx with ⟨_, _, _, _, h1, rfl⟩ | ⟨_, h1, _⟩
          · rw [hm] at h1; simp only [Option.some.injEq, Nm.row.injEq] at h1
            obtain ⟨rfl, rfl, rfl, rfl⟩ := h1
            refine partE_run r1 r2 hlo hhi hmx h2 rfl h (fun l h' e1 e2 => ?_) (fun l h' e1 e2 => ?_)
            · simp only [Den]
              refine .inl ⟨g, o, _, c, if c = l then o else o + l * e.size, hm, e1, e2, fun h7 => if_neg (by omega), ?_⟩
              split
              · rfl
              · simp [addr_add]
            · simp only [Den]
              refine .inl ⟨g, o, _, c, if h' = l then o else o + l * e.size, hm, e1, e2, fun h7 => if_neg (by omega), ?_⟩
              split
              · rfl
              · simp [addr_add]
          · rw [hm] at h1; cases h1
      · simp [Tree.run] at h
    · simp [Tree.run] at h
  · rename_i u' b sz k j hu
    split at h
    · rename_i e nl xs ty' ro hb
      split at h
      · rename_i ut hrt hsz
        have hsz' : sz = e.size := by simpa using hsz
        subst hsz'
        obtain ⟨r1, r2, r3⟩ := rowT_run hrt
        obtain ⟨m, hm, hok⟩ := hrel _ _ hb
        simp only [Den] at hx
        simp only [BlkOK] at hok
        rcases hok with ⟨a, rfl, rfl, rfl⟩ | ⟨g, o, c, cur, rfl, rfl, h2, h3, h4, h5, h6⟩
        · rcases hx with ⟨_, _, _, _, _, h1, _⟩ | ⟨a', h1, rfl, rfl, rfl⟩
          · rw [hm] at h1; cases h1
          · rw [hm] at h1; simp only [Option.some.injEq, Nm.emp.injEq] at h1; subst h1
            refine partE_run r1 r2 hlo hhi hmx (by simp) rfl h (fun l h' e1 e2 => ?_) (fun l h' e1 e2 => ?_)
            · obtain rfl : h' = 0 := by simpa using e2
              obtain rfl : l = 0 := by omega
              simp only [Den]
              exact .inr ⟨_, hm, trivial, trivial, by simp⟩
            · obtain rfl : h' = 0 := by simpa using e2
              obtain rfl : l = 0 := by omega
              simp only [Den]
              exact .inr ⟨_, hm, trivial, trivial, by simp⟩
        · rcases hx with ⟨_, _, _, _, off, h1, q1, q2, q3, rfl⟩ | ⟨_, h1, _⟩
          · rw [hm] at h1; simp only [Option.some.injEq, Nm.row.injEq] at h1
            obtain ⟨rfl, rfl, rfl, rfl⟩ := h1
            refine partE_run r1 r2 hlo hhi hmx (by omega) rfl h (fun l h' e1 e2 => ?_) (fun l h' e1 e2 => ?_)
            · simp only [Den]
              refine .inl ⟨g, o, _, c, if c - k = l then off else off + l * e.size, hm, by omega, by omega, fun h7 => ?_, ?_⟩
              · rw [if_neg (by omega), q3 (by omega), Nat.add_mul]; omega
              · have e3 : k + h' - (k + l) = h' - l := by omega
                have e4 : c - (k + l) = c - k - l := by omega
                rw [e3, e4]
                split
                · rfl
                · simp [addr_add]
            · simp only [Den]
              refine .inl ⟨g, o, _, c, if h' = l then off else off + l * e.size, hm, by omega, by omega, fun h7 => ?_, ?_⟩
              · rw [if_neg (by omega), q3 (by omega), Nat.add_mul]; omega
              · have e3 : k + h' - (k + l) = h' - l := by omega
                rw [e3]
                split
                · rfl
                · simp [addr_add]
          · rw [hm] at h1; cases h1
      · simp [Tree.run] at h
    · simp [Tree.run] at h
  · rename_i u' nl hu
    split at h
    · rename_i n hn
      simp only [Den] at hx
      obtain ⟨a, rfl, rfl⟩ := hx
      refine partE_run hu hn hlo hhi hmx (Nat.le_refl _) rfl h (fun l h' e1 e2 => ?_) (fun l h' e1 e2 => ?_)
      · obtain rfl : h' = 0 := by omega
        obtain rfl : l = 0 := by omega
        simp only [Den]
        exact ⟨a, rfl, by simp⟩
      · obtain rfl : h' = 0 := by omega
        obtain rfl : l = 0 := by omega
        simp only [Den]
        exact ⟨a, rfl, by simp⟩
    · simp [Tree.run] at h
  · rename_i u' b off len cap hu
    split at h
    · rename_i n hnm hn
      obtain ⟨m, b0, h⟩ := Tree.run_bind h
      obtain ⟨hv, b1, h⟩ := Tree.run_bind h
      obtain ⟨lv, b2, h⟩ := Tree.run_bind h
      split at h
      · rename_i hc
        simp only [Bool.and_eq_true, decide_eq_true_eq] at hc
        obtain ⟨c1, c2, c3, c4⟩ := hc
        simp only [Den] at hx; obtain ⟨g, hg, rfl⟩ := hx
        have hb := sliceBounds_run (P := P) (w := w) (isSlice := true) (len := len) (cap := cap) (noHi_spec hnm) (boundE_run hmx b0) (boundE_run hhi b1) (boundE_run hlo b2) c1 c2 c3 c4
        have run : ∀ r, r = Value.slice (if m.toNat = lv.toNat then some ⟨g, off, none⟩ else (some ⟨g, off, none⟩ : Option Addr).map (·.add (lv.toNat * n))) (hv.toNat - lv.toNat) (m.toNat - lv.toNat) →
            (Instr.sliceAt t (.slice (some ⟨g, off, none⟩) len cap) (lo.map eval) (hi.map eval) (mx.map eval)).run P w = .ok r w := by
          intro r hr; subst hr
          unfold Instr.sliceAt
          rw [Sem.run_bind, run_underlying' hu, Result.andThen_ok]
          simp only [Instr.slice]
          rw [Sem.run_bind, run_underlying' hu, Result.andThen_ok]
          simp only [Sem.run_bind, hb, Result.andThen_ok, sizeT_run hn, Sem.run_pure]
        split at h
        · rename_i hml
          have hml' : m = lv := by simpa using hml
          subst hml'
          simp only [Tree.run, Option.some.injEq] at h; subst h
          refine ⟨.slice (some ⟨g, off, none⟩) 0 0, run _ ?_, by simp only [Den]; exact ⟨_, rfl, rfl⟩⟩
          have : hv.toNat - m.toNat = 0 := by omega
          simp [this]
        · rename_i hml
          have hml' : ¬ m = lv := by simpa using hml
          have hml2 : ¬ m.toNat = lv.toNat := by omega
          simp only [Tree.run, Option.some.injEq] at h; subst h
          refine ⟨_, run _ rfl, ?_⟩
          simp only [Den]
          refine ⟨g, hg, ?_⟩
          rw [if_neg hml2]; simp [addr_add]
      · simp [Tree.run] at h
    · simp [Tree.run] at h
  · rename_i len u' b off hu
    split at h
    · rename_i n hnm hn
      obtain ⟨m, b0, h⟩ := Tree.run_bind h
      obtain ⟨hv, b1, h⟩ := Tree.run_bind h
      obtain ⟨lv, b2, h⟩ := Tree.run_bind h
      split at h
      · rename_i hc
        simp only [Bool.and_eq_true, decide_eq_true_eq] at hc
        obtain ⟨c1, c2, c3, c4⟩ := hc
        simp only [Den] at hx; obtain ⟨g, hg, rfl⟩ := hx
        have hb := sliceBounds_run (P := P) (w := w) (isSlice := false) (len := len) (cap := len) (noHi_spec hnm) (boundE_run hmx b0) (boundE_run hhi b1) (boundE_run hlo b2) c1 c2 c3 c4
        have run : ∀ r, r = Value.slice (some (if m.toNat = lv.toNat then ⟨g, off, none⟩ else (⟨g, off, none⟩ : Addr).add (lv.toNat * n))) (hv.toNat - lv.toNat) (m.toNat - lv.toNat) →
            (Instr.sliceAt t (.pointer (some ⟨g, off, none⟩)) (lo.map eval) (hi.map eval) (mx.map eval)).run P w = .ok r w := by
          intro r hr; subst hr
          unfold Instr.sliceAt
          rw [Sem.run_bind, run_underlying' hu, Result.andThen_ok]
          simp only [Instr.sureAddr, Sem.run_bind, Sem.run_pure, hb, Result.andThen_ok, sizeT_run hn]
        split at h
        · rename_i hml
          have hml' : m = lv := by simpa using hml
          subst hml'
          simp only [Tree.run, Option.some.injEq] at h; subst h
          refine ⟨.slice (some ⟨g, off, none⟩) 0 0, run _ ?_, by simp only [Den]; exact ⟨_, rfl, rfl⟩⟩
          have : hv.toNat - m.toNat = 0 := by omega
          simp [this]
        · rename_i hml
          have hml' : ¬ m = lv := by simpa using hml
          have hml2 : ¬ m.toNat = lv.toNat := by omega
          simp only [Tree.run, Option.some.injEq] at h; subst h
          refine ⟨_, run _ rfl, ?_⟩
          simp only [Den]
          refine ⟨g, hg, ?_⟩
          rw [if_neg hml2]; simp [addr_add]
      · simp [Tree.run] at h
    · simp [Tree.run] at h
  · simp [Tree.run] at h

theorem fieldA_run {s : TypeId} {f : Nat} {k : Nat → SV} {v : SV} (h : (fieldA T s f k).run = some v) :
    ∃ o, v = k o ∧ ∀ (g off : Nat) (w' : World), (Instr.fieldAt s (.pointer (some ⟨g, off, none⟩)) f).run P w' = .ok (.pointer (some ⟨g, off + o, none⟩)) w' := by
  unfold fieldA at h
  split at h
  · rename_i fd hfd
    obtain ⟨fs, hu, hget⟩ := fieldT_run hfd
    split at h
    · rename_i n hn
      split at h
      · simp [Tree.run] at h
      · rename_i hn0
        have hn0' : ¬ n = 0 := by simpa using hn0
        simp only [Tree.run, Option.some.injEq] at h
        refine ⟨fd.offset, h.symm, fun g off w' => ?_⟩
        simp [Instr.fieldAt, Instr.sureAddr, run_underlying' hu, hget, fieldPlace, sizeT_run hn, hn0', addr_add]
    · simp [Tree.run] at h
  · simp [Tree.run] at h

theorem indexAt_array {t e : TypeId} {len n : Nat} (hu : T.underlying t = some (.array len e)) (hn : sizeT T e = some n) {k : IntKind} {m : Int} (h0 : 0 ≤ m) (h1 : m < (len : Int)) (g off : Nat) (w' : World) :
    (Instr.indexAt t (.pointer (some ⟨g, off, none⟩)) (.int k m)).run P w' = .ok (.pointer (some ⟨g, off + m.toNat * n, none⟩)) w' := by
  simp [Instr.indexAt, Instr.sureAddr, run_underlying' hu, asIntOf, sizeT_run hn, h0, h1, addr_add]
theorem indexAt_slice {t e : TypeId} {len cap n : Nat} (hu : T.underlying t = some (.slice e)) (hn : sizeT T e = some n) {k : IntKind} {m : Int} (h0 : 0 ≤ m) (h1 : m < (len : Int)) (g off : Nat) (w' : World) :
    (Instr.indexAt t (.slice (some ⟨g, off, none⟩) len cap) (.int k m)).run P w' = .ok (.pointer (some ⟨g, off + m.toNat * n, none⟩)) w' := by
  simp [Instr.indexAt, Instr.sureAddr, run_underlying' hu, asIntOf, sizeT_run hn, h0, h1, addr_add]

theorem indexA_run (hrel : Own ρ H Φ w) {t : TypeId} {x i v : SV} {u iv : Value} (hx : Den ρ Φ w x u) (hi : Den ρ Φ w i iv) (h : (indexA T H t x i).run = some v) : ∃ r, (Instr.indexAt t u iv).run P w = .ok r w ∧ Den ρ Φ w v r := by
  unfold indexA at h
  split at h
  · rename_i b off
    split at h
    · rename_i len e n hel
      obtain ⟨hu, hn⟩ := elemT_run hel
      obtain ⟨k, m, hint, hm0, hm1, hf⟩ := indexTree_run h
      simp only [Tree.run, Option.some.injEq] at hf; subst hf
      have := int?_den hint hi; subst this
      simp only [Den] at hx; obtain ⟨g, hg, rfl⟩ := hx
      exact ⟨_, indexAt_array hu hn hm0 hm1 g off w, by simp only [Den]; exact ⟨g, hg, rfl⟩⟩
    · simp [Tree.run] at h
  · rename_i b sz q off
    split at h
    · rename_i len e n hel
      obtain ⟨hu, hn⟩ := elemT_run hel
      split at h
      · rename_i kk m e' nl xs ty ro hc hb
        simp only [Bool.and_eq_true, Nat.beq_eq] at hc
        obtain ⟨rfl, rfl, rfl⟩ := hc
        obtain ⟨hp, h2⟩ := Tree.run_need h
        simp only [Bool.and_eq_true, decide_eq_true_eq] at hp
        obtain ⟨⟨h0, h1⟩, h3⟩ := hp
        simp only [Tree.run, Option.some.injEq] at h2; subst h2
        simp only [Den] at hx hi; subst hi
        obtain ⟨g, o, n', c, hg, hlt, rfl⟩ := hx
        refine ⟨_, indexAt_array hu hn h0 h3 g _ w, ?_⟩
        simp only [Den]
        obtain ⟨mm, hmm, hok⟩ := hrel _ _ hb
        rw [hg] at hmm; simp only [Option.some.injEq] at hmm; subst hmm
        simp only [BlkOK] at hok
        rcases hok with ⟨a, h4, _⟩ | ⟨g', o', c', cur, h4, _⟩
        · cases h4
        · simp only [Nm.row.injEq] at h4
          obtain ⟨rfl, rfl, rfl, rfl⟩ := h4
          exact ⟨g, o, _, c, hg, by omega, by simp⟩
      · obtain ⟨k, m, hint, hm0, hm1, hf⟩ := indexTree_run h
        simp only [Tree.run, Option.some.injEq] at hf; subst hf
        have := int?_den hint hi; subst this
        simp only [Den] at hx; obtain ⟨g, o, n', c, hg, hlt, rfl⟩ := hx
        exact ⟨_, indexAt_array hu hn hm0 hm1 g _ w, by simp only [Den]; exact ⟨g, o, n', c, hg, hlt, by rw [Nat.add_assoc, Nat.add_assoc]⟩⟩
    · simp [Tree.run] at h
  · rename_i e' xs q off
    split at h
    · rename_i len e n hel
      obtain ⟨hu, hn⟩ := elemT_run hel
      obtain ⟨k, m, hint, hm0, hm1, hf⟩ := indexTree_run h
      simp only [Tree.run, Option.some.injEq] at hf; subst hf
      have := int?_den hint hi; subst this
      simp only [Den] at hx; obtain ⟨p, hp, hlt, rfl⟩ := hx
      exact ⟨_, indexAt_array hu hn hm0 hm1 _ _ w, by simp only [Den]; exact ⟨p, hp, hlt, by rw [Nat.add_assoc, Nat.add_assoc]⟩⟩
    · simp [Tree.run] at h
  · rename_i b off len cap
    split at h
    · rename_i e hu
      split at h
      · rename_i n hn
        obtain ⟨k, m, hint, hm0, hm1, hf⟩ := indexTree_run h
        simp only [Tree.run, Option.some.injEq] at hf; subst hf
        have := int?_den hint hi; subst this
        simp only [Den] at hx; obtain ⟨g, hg, rfl⟩ := hx
        exact ⟨_, indexAt_slice hu hn hm0 hm1 g off w, by simp only [Den]; exact ⟨g, hg, rfl⟩⟩
      · simp [Tree.run] at h
    · simp [Tree.run] at h
  · rename_i e nl xs
    split at h
    · rename_i ut hrt
      obtain ⟨r1, r2, r3⟩ := rowT_run hrt
      obtain ⟨k, m, hint, hm0, hm1, hf⟩ := indexL_run h
      simp only [Tree.run, Option.some.injEq] at hf; subst hf
      have := int?_den hint hi; subst this
      simp only [Den, DenD, D.nl, D.xs] at hx
      obtain ⟨a, cap, rfl, l1, l2, l3, l4, l5⟩ := hx
      cases a with
      | none => have := (l4 rfl).1; subst this; simp at hm1; omega
      | some p =>
        have hp := l5 p rfl (by rintro rfl; simp at hm1; omega)
        have hpe : p = ⟨p.block, p.off, none⟩ := by have := hp.1; cases p; simp_all
        refine ⟨.pointer (some ⟨p.block, p.off + m.toNat * e.size, none⟩), ?_, ?_⟩
        · rw [hpe]; exact indexAt_slice r1 r2 hm0 hm1 _ _ w
        · simp only [Den]; exact ⟨p, hp, by omega, by simp⟩
    · simp [Tree.run] at h
  · rename_i b
    split at h
    · rename_i e nl xs ty ro hb
      split at h
      · rename_i ut hrt
        obtain ⟨r1, r2, r3⟩ := rowT_run hrt
        obtain ⟨k, m, hint, hm0, hm1, hf⟩ := indexL_run h
        simp only [Tree.run, Option.some.injEq] at hf; subst hf
        have := int?_den hint hi; subst this
        obtain ⟨mm, hmm, hok⟩ := hrel _ _ hb
        simp only [Den] at hx
        simp only [BlkOK] at hok
        rcases hok with ⟨a, rfl, _, rfl⟩ | ⟨g, o, c', cur, rfl, _⟩
        · simp at hm1; omega
        · rcases hx with ⟨_, _, _, _, h1, rfl⟩ | ⟨_, h1, _⟩
          · rw [hmm] at h1; simp only [Option.some.injEq, Nm.row.injEq] at h1
            obtain ⟨rfl, rfl, rfl, rfl⟩ := h1
            refine ⟨_, indexAt_slice r1 r2 hm0 hm1 g o w, ?_⟩
            simp only [Den]; exact ⟨g, o, _, _, hmm, by omega, by simp⟩
          · rw [hmm] at h1; cases h1
      · simp [Tree.run] at h
    · simp [Tree.run] at h
  · rename_i b sz lo hi_
    split at h
    · rename_i e nl xs ty ro hb
      split at h
      · rename_i ut kk n hrt hsz hint
        have hsz' : sz = e.size := by simpa using hsz
        subst hsz'
        obtain ⟨r1, r2, r3⟩ := rowT_run hrt
        obtain ⟨hp, h⟩ := Tree.run_need h
        simp only [Bool.and_eq_true, decide_eq_true_eq] at hp
        obtain ⟨h0, h1⟩ := hp
        simp only [Tree.run, Option.some.injEq] at h; subst h
        have := int?_den hint hi; subst this
        obtain ⟨mm, hmm, hok⟩ := hrel _ _ hb
        simp only [Den] at hx
        rcases hx with ⟨g, o, q, c, off, q1, q2, q3, q4, rfl⟩ | ⟨_, _, rfl, rfl, _⟩
        · refine ⟨_, indexAt_slice r1 r2 h0 h1 g off w, ?_⟩
          simp only [Den]
          simp only [BlkOK] at hok
          rw [q1] at hmm; simp only [Option.some.injEq] at hmm; subst hmm
          rcases hok with ⟨a, h7, _⟩ | ⟨g', o', c', cur, h7, _, h8, _⟩
          · cases h7
          · simp only [Nm.row.injEq] at h7
            obtain ⟨rfl, rfl, rfl, rfl⟩ := h7
            refine ⟨g, o, _, c, q1, by omega, ?_⟩
            rw [q4 (by omega), Nat.add_mul]
            simp [Nat.add_assoc]
        · simp at h1; omega
      · simp [Tree.run] at h
    · simp [Tree.run] at h
  · simp [Tree.run] at h

theorem rows_int {k : IntKind} : ∀ {xs : List D} {fl : List Value}, RowsP (fun d v => DenD Φ w (.int k) d v) false 1 xs fl → fl = xs.map fun d => Value.int k d.int
  | [], fl, h => by simpa [RowsP] using h
  | d :: r, fl, h => by
    simp only [RowsP] at h
    obtain ⟨row, rest, rfl, hl, hd, hr⟩ := h
    match row, hl with
    | [v], _ =>
      simp only [packV, List.headD_cons, DenD] at hd
      subst hd
      rw [rows_int hr]
      rfl
theorem push_all : ∀ (ns : List Int) (s : ByteArray), ns.foldl (fun r n => r.push (UInt8.ofNat n.toNat)) s = ⟨s.data ++ (ns.map fun n => UInt8.ofNat n.toNat).toArray⟩
  | [], s => by simp
  | n :: r, s => by
    rw [List.foldl_cons, push_all r]
    simp [ByteArray.push]
theorem toStr_run {xs : List D} {g : Nat} {off cap : Nat} {fl : List Value} (hfl : RowsP (fun d v => DenD Φ w (.int .u8) d v) false 1 xs fl) (hc : ∀ j u, fl[j]? = some u → w.cell? ⟨g, off + j, none⟩ = some u) :
    (Conv.bytesToString (.slice (some ⟨g, off, none⟩) xs.length cap)).run P w = .ok (.string ⟨(bytesD xs).toArray⟩) w := by
  have e := rows_int hfl
  subst e
  have hl := loadCellsFrom_run (P := P) hc 0 xs.length 0 #[] (by simp)
  rw [run_bytesToString (P := P) w _ _ _ (xs.map D.int) (by
    unfold loadCells
    rw [Nat.add_zero] at hl
    rw [hl]
    simp [List.take_of_length_le])]
  rw [push_all]
  congr 3
  simp [bytesD]
theorem bytesStr_run {v r : SV} {x : Value} (hrel : Own ρ H Φ w) (h : (bytesStr H v).run = some r) (hd : Den ρ Φ w v x) : ∃ a l c, x = .slice a l c ∧ ∃ y, (Conv.bytesToString x).run P w = .ok y w ∧ Den ρ Φ w r y := by
  unfold bytesStr at h
  split at h
  · rename_i l c
    simp only [Tree.run, Option.some.injEq] at h; subst h
    simp only [Den] at hd; subst hd
    exact ⟨_, _, _, rfl, .string .empty, by simp [Conv.bytesToString], by simp [Den]; rfl⟩
  · rename_i nl xs
    simp only [Tree.run, Option.some.injEq] at h; subst h
    simp only [Den, DenD, D.nl, D.xs, ListV] at hd
    obtain ⟨a, cap, rfl, h1, h2, h3, h4, h5⟩ := hd
    refine ⟨_, _, _, rfl, ?_⟩
    cases a with
    | none =>
      obtain ⟨rfl, _⟩ := h4 rfl
      exact ⟨.string .empty, by simp [Conv.bytesToString], by simp [Den, bytesD]; rfl⟩
    | some p =>
      by_cases hx : xs = []
      · subst hx
        obtain ⟨g, off, sp⟩ := p
        refine ⟨.string ⟨#[]⟩, ?_, by simp [Den, bytesD]⟩
        rw [run_bytesToString (P := P) w _ _ _ [] (by simp [loadCells, loadCellsFrom])]
        rfl
      · obtain ⟨q1, _, fl, q2, q3⟩ := h5 p rfl hx
        obtain ⟨g, off, sp⟩ := p
        simp only at q1 q3
        subst q1
        exact ⟨_, toStr_run (Φ := Φ) q2 q3, by simp [Den]⟩
  · rename_i b
    split at h
    · rename_i nl xs ty ro hb
      simp only [Tree.run, Option.some.injEq] at h; subst h
      obtain ⟨m, hm, hok⟩ := hrel _ _ hb
      simp only [BlkOK] at hok
      simp only [Den] at hd
      rcases hd with ⟨g, o, n, c, hg, rfl⟩ | ⟨a, hg, rfl⟩
      · rw [hm] at hg; simp only [Option.some.injEq] at hg; subst hg
        rcases hok with ⟨a, h0, _⟩ | ⟨g', o', c', cur, h1, _, _, _, h5, h6, h7⟩
        · cases h0
        · simp only [Nm.row.injEq] at h1
          obtain ⟨rfl, rfl, rfl, rfl⟩ := h1
          exact ⟨_, _, _, rfl, _, toStr_run (Φ := Φ) h7 (fun j u hu => own_rows_cell h5 j u hu), by simp [Den]⟩
      · rw [hm] at hg; simp only [Option.some.injEq] at hg; subst hg
        rcases hok with ⟨_, _, _, rfl⟩ | ⟨g', o', c', cur, h1, _⟩
        · refine ⟨_, _, _, rfl, ?_⟩
          cases a with
          | none => exact ⟨.string .empty, by simp [Conv.bytesToString], by simp [Den, bytesD]; rfl⟩
          | some p =>
            refine ⟨.string ⟨#[]⟩, ?_, by simp [Den, bytesD]⟩
            obtain ⟨g, off, sp⟩ := p
            rw [run_bytesToString (P := P) w _ _ _ [] (by simp [loadCells, loadCellsFrom])]
            rfl
        · cases h1
    · simp [Tree.run] at h
  · simp [Tree.run] at h
theorem pureOp_run {o : Oper} {v : SV} (hk : ∀ x ∈ o.op.operands, Knows ev eval ρ Φ w x) (hrel : Own ρ H Φ w) (h : (pureOp T ev true H o.op).run = some v) :
    ∃ r, (execOp eval o).run P w = .ok (.value r) w ∧ Den ρ Φ w v r := by
  obtain ⟨dst, op, ty, pos, after, guard⟩ := o
  simp only at hk h
  cases op
  case move x =>
    simp only [pureOp] at h
    exact ⟨_, by simp [execOp], hk x (by simp [Op.operands]) true v h rfl⟩
  case assign x =>
    simp only [pureOp] at h
    exact ⟨_, by simp [execOp], hk x (by simp [Op.operands]) true v h rfl⟩
  case pick c a b =>
    simp only [pureOp] at h
    obtain ⟨cv, h1, h2⟩ := Tree.run_bind h
    have hc := hk c (by simp [Op.operands]) true cv h1 rfl
    split at h2
    · have ha := hk a (by simp [Op.operands]) true v h2 rfl
      simp only [Den] at hc
      exact ⟨eval a, by simp [execOp, hc, asBool], ha⟩
    · have hb := hk b (by simp [Op.operands]) true v h2 rfl
      simp only [Den] at hc
      exact ⟨eval b, by simp [execOp, hc, asBool], hb⟩
    · rename_i q
      simp only [Den] at hc
      obtain ⟨va, h3, h4⟩ := Tree.run_bind h2
      obtain ⟨vb, h5, h6⟩ := Tree.run_bind h4
      have hm := merge_run (u := eval a) (v := eval b) h6 (fun e => hk a (by simp [Op.operands]) (true && q) va h3 (by simp [e])) (fun e => hk b (by simp [Op.operands]) (true && !q) vb h5 (by simp [e]))
      refine ⟨_, ?_, hm⟩
      cases q <;> simp [execOp, hc, asBool]
    · simp [Tree.run] at h2
  case nilCheck x =>
    simp only [pureOp] at h
    obtain ⟨xv, h1, h2⟩ := Tree.run_bind h
    have hx := hk x (by simp [Op.operands]) true xv h1 rfl
    split at h2
    · simp [Tree.run] at h2; subst h2
      have hx' := hx
      simp only [Den] at hx'; obtain ⟨g, hg, he⟩ := hx'
      exact ⟨eval x, by simp [execOp, he], hx⟩
    · simp [Tree.run] at h2; subst h2
      have hx' := hx
      simp only [Den] at hx'; obtain ⟨fs, cs, he, _⟩ := hx'
      exact ⟨eval x, by simp [execOp, he], hx⟩
    · simp [Tree.run] at h2
  case load t x =>
    simp only [pureOp] at h
    obtain ⟨xv, h1, h2⟩ := Tree.run_bind h
    have hx := hk x (by simp [Op.operands]) true xv h1 rfl
    obtain ⟨r, hr, hd⟩ := loadV_run (P := P) hrel hx h2
    exact ⟨r, by simp [execOp, hr], hd⟩
  case binOp op t x y yt =>
    simp only [pureOp] at h
    obtain ⟨xv, h1, h2⟩ := Tree.run_bind h
    obtain ⟨yv, h3, h4⟩ := Tree.run_bind h2
    have hx := hk x (by simp [Op.operands]) true xv h1 rfl
    have hy := hk y (by simp [Op.operands]) true yv h3 rfl
    obtain ⟨r, hr, hd⟩ := binSV_run (P := P) h4 hx hy x y w
    refine ⟨r, ?_, hd⟩
    simp only [execOp]
    rw [Sem.run_bind, hr]; simp
  case unOp op t x =>
    simp only [pureOp] at h
    obtain ⟨xv, h1, h2⟩ := Tree.run_bind h
    have hx := hk x (by simp [Op.operands]) true xv h1 rfl
    unfold unSV at h2
    split at h2 <;> simp [Tree.run] at h2 <;> subst h2 <;> simp only [Den] at hx
    · exact ⟨_, by simp [execOp, hx, Op.unary] <;> rfl, litB_den ..⟩
    · exact ⟨_, by simp [execOp, hx, Op.unary]; rfl, by simp [Den]⟩
    · exact ⟨_, by simp [execOp, hx, Op.unary, Op.intArith]; rfl, by simpa using litI_den ..⟩
    · exact ⟨_, by simp [execOp, hx, Op.unary, Op.intArith]; rfl, by simp [Den]⟩
    · exact ⟨_, by simp [execOp, hx, Op.unary, Op.intBits, bits]; rfl, by simpa [bits] using litI_den ..⟩
    · exact ⟨_, by simp [execOp, hx, Op.unary, Op.intBits, bits]; rfl, by simp [Den, bits]⟩
  case convert src dst x =>
    simp only [pureOp] at h
    obtain ⟨xv, h1, h2⟩ := Tree.run_bind h
    have hx := hk x (by simp [Op.operands]) true xv h1 rfl
    split at h2
    · rename_i k0 k k1 n hs hd
      simp [Tree.run] at h2; subst h2
      simp only [Den] at hx
      exact ⟨_, by simp [execOp, hx, convert, run_underlying' hs, run_underlying' hd, Conv.intToInt] <;> rfl, litI_den ..⟩
    · rename_i k0 k k1 n hs hd
      simp [Tree.run] at h2; subst h2
      simp only [Den] at hx
      exact ⟨_, by simp [execOp, hx, convert, run_underlying' hs, run_underlying' hd, Conv.intToInt]; rfl, by simp [Den]⟩
    · rename_i s hs hd
      simp [Tree.run] at h2; subst h2
      simp only [Den] at hx
      exact ⟨_, by simp [execOp, hx, convert, run_underlying' hs, run_underlying' hd]; rfl, by simp [Den]⟩
    · rename_i e v hs hd
      split at h2
      · rename_i he
        obtain ⟨a, l, c, hxe, y, hy, hyd⟩ := bytesStr_run (P := P) hrel h2 hx
        refine ⟨y, ?_, hyd⟩
        rw [hxe] at hy
        simp [execOp, hxe, convert, run_underlying' hs, run_underlying' hd, run_underlying' he, hy]
      · simp [Tree.run] at h2
    · simp [Tree.run] at h2
  case makeFunc fn first caps =>
    simp only [pureOp] at h
    obtain ⟨fs, h1, h2⟩ := Tree.run_bind h
    obtain ⟨cs, h3, h4⟩ := Tree.run_bind h2
    simp [Tree.run] at h4; subst h4
    have m1 : ∀ x ∈ first.toList, x ∈ (Op.makeFunc fn first caps).operands := by
      intro x hx; simp only [Op.operands, Array.mem_append]; exact .inl (Array.mem_toList_iff.1 hx)
    have m2 : ∀ x ∈ caps.toList, x ∈ (Op.makeFunc fn first caps).operands := by
      intro x hx; simp only [Op.operands, Array.mem_append]; exact .inr (Array.mem_toList_iff.1 hx)
    have e1 := evs_run (ev true) eval first.toList fs (fun x hx v hv => hk x (m1 x hx) true v hv rfl) h1
    have e2 := evs_run (ev true) eval caps.toList cs (fun x hx v hv => hk x (m2 x hx) true v hv rfl) h3
    refine ⟨.func fn (first.map eval) (caps.map eval), by simp [execOp, Instr.makeFunc], ?_⟩
    simp only [Den]
    refine ⟨_, _, ?_, e1, e2⟩
    rw [← Array.toList_map, ← Array.toList_map, Array.toArray_toList, Array.toArray_toList]
  case fieldAddr s x f =>
    simp only [pureOp] at h
    obtain ⟨xv, h1, h2⟩ := Tree.run_bind h
    have hx := hk x (by simp [Op.operands]) true xv h1 rfl
    split at h2
    · obtain ⟨o, rfl, hr⟩ := fieldA_run (P := P) h2
      simp only [Den] at hx; obtain ⟨g, hg, he⟩ := hx
      exact ⟨_, by simp only [execOp, he, Sem.run_bind, hr]; simp; rfl, by simp only [Den]; exact ⟨g, hg, rfl⟩⟩
    · obtain ⟨o, rfl, hr⟩ := fieldA_run (P := P) h2
      simp only [Den] at hx; obtain ⟨g, o', n, c, hg, hlt, he⟩ := hx
      exact ⟨_, by simp only [execOp, he, Sem.run_bind, hr]; simp; rfl, by simp only [Den]; exact ⟨g, o', n, c, hg, hlt, by rw [Nat.add_assoc, Nat.add_assoc]⟩⟩
    · obtain ⟨o, rfl, hr⟩ := fieldA_run (P := P) h2
      simp only [Den] at hx; obtain ⟨p, hp, hlt, he⟩ := hx
      exact ⟨_, by simp only [execOp, he, Sem.run_bind, hr]; simp; rfl, by simp only [Den]; exact ⟨p, hp, hlt, by simp [Nat.add_assoc]⟩⟩
    · simp [Tree.run] at h2
  case field t x f =>
    simp only [pureOp] at h
    obtain ⟨xv, h1, h2⟩ := Tree.run_bind h
    have hx := hk x (by simp [Op.operands]) true xv h1 rfl
    split at h2
    · rename_i cs
      split at h2
      · rename_i fd hfd
        obtain ⟨fs, hu, hget⟩ := fieldT_run hfd
        have hp := orBad_run h2
        simp only [Den] at hx; obtain ⟨vs, he, hd⟩ := hx
        obtain ⟨r, hr, hdr⟩ := part_run (P := P) hd hp
        exact ⟨r, by simp [execOp, Instr.field, he, run_underlying' hu, hget, asAgg, hr], hdr⟩
      · simp [Tree.run] at h2
    · simp [Tree.run] at h2
  case indexAddr t x i =>
    simp only [pureOp] at h
    obtain ⟨xv, h1, h2⟩ := Tree.run_bind h
    obtain ⟨iv, h3, h4⟩ := Tree.run_bind h2
    have hx := hk x (by simp [Op.operands]) true xv h1 rfl
    have hi := hk i (by simp [Op.operands]) true iv h3 rfl
    obtain ⟨r, hr, hd⟩ := indexA_run (P := P) hrel hx hi h4
    exact ⟨r, by simp [execOp, hr], hd⟩
  case index t x i =>
    simp only [pureOp] at h
    obtain ⟨xv, h1, h2⟩ := Tree.run_bind h
    have hx := hk x (by simp [Op.operands]) true xv h1 rfl
    split at h2
    · rename_i cs
      split at h2
      · rename_i len e n hel
        obtain ⟨hu, hn⟩ := elemT_run hel
        obtain ⟨iv, h3, h4⟩ := Tree.run_bind h2
        have hi := hk i (by simp [Op.operands]) true iv h3 rfl
        obtain ⟨k, m, hint, hm0, hm1, hf⟩ := indexTree_run h4
        have hp := orBad_run hf
        have hiv := int?_den hint hi
        simp only [Den] at hx; obtain ⟨vs, he, hd⟩ := hx
        obtain ⟨r, hr, hdr⟩ := part_run (P := P) hd hp
        exact ⟨r, by simp [execOp, Instr.index, he, hiv, run_underlying' hu, asIntOf, sizeT_run hn, hm0, hm1, hr], hdr⟩
      · simp [Tree.run] at h2
    · rename_i s
      split at h2
      · rename_i hu
        obtain ⟨iv, h3, h4⟩ := Tree.run_bind h2
        have hi := hk i (by simp [Op.operands]) true iv h3 rfl
        split at h4
        · rename_i k n hint
          obtain ⟨hc, h4⟩ := Tree.run_need h4
          simp only [Bool.and_eq_true, decide_eq_true_eq] at hc
          obtain ⟨c1, c2⟩ := hc
          simp only [Tree.run, Option.some.injEq] at h4; subst h4
          have hiv := int?_den hint hi
          simp only [Den] at hx
          refine ⟨.int .u8 ((s.getD n.toNat 0).toNat : Int), ?_, by simp [Den]⟩
          have hg := ba_get s n.toNat (by omega)
          simp only [execOp, Instr.index, hx, hiv, Sem.run_bind, asIntOf, Sem.run_pure, Result.andThen_ok, run_underlying' hu, if_pos c1, hg]
        · simp [Tree.run] at h4
      · simp [Tree.run] at h2
    · simp [Tree.run] at h2
  case slice t x lo hi mx =>
    simp only [pureOp] at h
    obtain ⟨xv, h1, h2⟩ := Tree.run_bind h
    have hx := hk x (by simp [Op.operands]) true xv h1 rfl
    obtain ⟨r, hr, hd⟩ := sliceE_run (P := P) hrel (fun y hy => hk y (by subst hy; simp [Op.operands])) (fun y hy => hk y (by subst hy; simp [Op.operands])) (fun y hy => hk y (by subst hy; simp [Op.operands])) hx h2
    exact ⟨r, by simp [execOp, hr], hd⟩
  case lookup t x i ok =>
    simp only [pureOp] at h
    obtain ⟨xv, h1, h2⟩ := Tree.run_bind h
    obtain ⟨iv, h3, h4⟩ := Tree.run_bind h2
    obtain ⟨r, hr, hd⟩ := lookupE_run (P := P) hrel (hk x (by simp [Op.operands]) true xv h1 rfl) (hk i (by simp [Op.operands]) true iv h3 rfl) h4
    exact ⟨r, by simp [execOp, hr], hd⟩
  case extract x i =>
    simp only [pureOp] at h
    obtain ⟨xv, h1, h2⟩ := Tree.run_bind h
    have hx := hk x (by simp [Op.operands]) true xv h1 rfl
    split at h2
    · rename_i vs
      have hp := orBad_run h2
      simp only [Den] at hx; obtain ⟨us, he, hd⟩ := hx
      obtain ⟨r, hr, hdr⟩ := hd.get hp
      exact ⟨r, by simp [execOp, Instr.extract, he, hr], hdr⟩
    · simp [Tree.run] at h2
  case build t parts =>
    simp only [pureOp] at h
    obtain ⟨vs, h1, h2⟩ := Tree.run_bind h
    have m1 : ∀ x ∈ parts.toList, x.2 ∈ (Op.build t parts).operands := by
      intro x hx; simp only [Op.operands, List.mem_toArray, List.mem_map]; exact ⟨x, hx, rfl⟩
    have e1 := evsP_run (ρ := ρ) (Φ := Φ) (w := w) (ev true) eval parts.toList vs (fun x hx v hv => hk x.2 (m1 x hx) true v hv rfl) h1
    split at h2
    · rename_i z pl hz hp
      have hb := orBad_run h2
      simp only [Option.map_eq_some_iff] at hb
      obtain ⟨out, hf, rfl⟩ := hb
      obtain ⟨us, hr, hd⟩ := build_run (P := P) hz hp hf e1
      refine ⟨.agg us.toArray, ?_, by simp only [Den]; exact ⟨us, rfl, hd⟩⟩
      have a1 : parts.map (fun x => (x.1, eval x.2)) = (parts.toList.map (fun x => (x.1, eval x.2))).toArray := by rw [← Array.toList_map, Array.toArray_toList]
      simp only [execOp]
      rw [Sem.run_bind]
      simp only [a1, hr]; simp
    · simp [Tree.run] at h2
  case call c =>
    obtain ⟨callee, args, argTypes⟩ := c
    cases callee
    case builtin bi =>
      have m1 : ∀ x ∈ args.toList, x ∈ (Op.call { callee := .builtin bi, args := args, argTypes := argTypes }).operands := by
        intro x hx; simp only [Op.operands, Call.operands, Array.mem_append]; exact .inr (Array.mem_toList_iff.1 hx)
      cases bi
      case len =>
        simp only [pureOp] at h
        split at h
        · rename_i x r t hargs ht
          obtain ⟨xv, h1, h2⟩ := Tree.run_bind h
          have hx := hk x (m1 x (by rw [hargs]; simp)) true xv h1 rfl
          have ha : (args.map eval)[0]? = some (eval x) := by
            rw [Array.getElem?_map, ← Array.getElem?_toList, hargs]; rfl
          obtain ⟨r, hr, hd⟩ := lenSV_run (P := P) hrel hx h2 (args.map eval) argTypes ty ha ht
          refine ⟨r, ?_, hd⟩
          simp only [execOp, resolve]
          simp only [Sem.run_bind, Sem.run_pure, Result.andThen_ok, invoke, builtin]
          rw [hr]; simp
        · simp [Tree.run] at h
      case min =>
        simp only [pureOp] at h
        obtain ⟨vs, h1, h2⟩ := Tree.run_bind h
        have e1 := evs_run (ρ := ρ) (Φ := Φ) (w := w) (ev true) eval args.toList vs (fun x hx v hv => hk x (m1 x hx) true v hv rfl) h1
        split at h2
        · rename_i x r
          simp only [DenL] at e1
          obtain ⟨u, us, e2, hx, hr⟩ := e1
          obtain ⟨y, hy, hd⟩ := foldI_run (P := P) false r us x v u h2 hx hr
          refine ⟨y, ?_, hd⟩
          simp only [execOp, resolve]
          simp only [Sem.run_bind, Sem.run_pure, Result.andThen_ok, invoke, builtin, Builtin.min_]
          rw [Array.toList_map, e2]
          simp only [Bool.false_eq_true, if_false] at hy
          simp only [hy]; simp
        · simp [Tree.run] at h2
      case max =>
        simp only [pureOp] at h
        obtain ⟨vs, h1, h2⟩ := Tree.run_bind h
        have e1 := evs_run (ρ := ρ) (Φ := Φ) (w := w) (ev true) eval args.toList vs (fun x hx v hv => hk x (m1 x hx) true v hv rfl) h1
        split at h2
        · rename_i x r
          simp only [DenL] at e1
          obtain ⟨u, us, e2, hx, hr⟩ := e1
          obtain ⟨y, hy, hd⟩ := foldI_run (P := P) true r us x v u h2 hx hr
          refine ⟨y, ?_, hd⟩
          simp only [execOp, resolve]
          simp only [Sem.run_bind, Sem.run_pure, Result.andThen_ok, invoke, builtin, Builtin.max_]
          rw [Array.toList_map, e2]
          simp only [if_true] at hy
          simp only [hy]; simp
        · simp [Tree.run] at h2
      all_goals (simp [pureOp, Tree.run] at h)
    all_goals (simp [pureOp, Tree.run] at h)
  all_goals (simp [pureOp, Tree.run] at h)
end
end Go.Sy
