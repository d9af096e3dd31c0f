/-
  graph.Ports, as a contract: what the ends of a graph are.
  No statement of the seat is proved here. Conditions: none.
-/
import Derived.Test.YtmokkonnilmdfaaSP12
import Derived.Test.YtmokkonnilmdfaaM12
set_option linter.unusedVariables false
set_option linter.unusedSimpArgs false
namespace Go.Proofs.Ytmokkonnilmdfaa
open Go.Sy Go.RowKit

/-- An entry's key, its value. -/
def keyI (d : D) : Int × Int := (((d.at 0).at 0).int, ((d.at 0).at 1).int)
def valI (d : D) : Int × Int × Int := (((d.at 1).at 0).int, ((d.at 1).at 1).int, ((d.at 1).at 2).int)
abbrev encS (v : Int × Int × Int) : Value := .agg #[.int .i64 v.1, .int .i64 v.2.1, .int .i64 v.2.2]

theorem keyB_iff (a b : D) : keyB mp47.3 a b = true ↔ (a.at 0).int = (b.at 0).int ∧ (a.at 1).int = (b.at 1).int := by
  simp [mp47, keyB, keyBL, and_comm]
theorem ents_kv {Φ : Nat → Prop} {w : World} : ∀ {es : List D} {l : List MapEntry}, EntsP Φ w mp47.3 mp47.4 es l → l.map (fun x => (x.key, x.val)) = es.map fun d => (encE (keyI d), encS (valI d))
  | [], l, h => by simp only [EntsP] at h; subst h; rfl
  | d :: r, l, ⟨x, t, h1, h2, h3⟩ => by
    subst h1
    have hk := (flatV_den (e := mp47.3) (by rfl)).1 h2.1
    have hv := (flatV_den (e := mp47.4) (by rfl)).1 h2.2
    simp only [List.map_cons, ents_kv h3, hk, hv]
    rfl

theorem hasK_iff {m : List D} {s p : Int} : hasK mp47.3 m (kE s p) = true ↔ (s, p) ∈ m.map keyI := by
  unfold hasK
  simp only [List.any_eq_true, List.mem_map]
  have e0 : ((kE s p).at 0).int = s := rfl
  have e1 : ((kE s p).at 1).int = p := rfl
  constructor
  · rintro ⟨d, hd, hk⟩
    have := (keyB_iff _ _).1 hk
    rw [e0, e1] at this
    refine ⟨d, hd, ?_⟩
    unfold keyI
    rw [← this.1, ← this.2]
  · rintro ⟨d, hd, hk⟩
    refine ⟨d, hd, (keyB_iff _ _).2 ?_⟩
    unfold keyI at hk
    simp only [Prod.mk.injEq] at hk
    rw [e0, e1]
    exact ⟨hk.1.symm, hk.2.symm⟩

theorem setK_keys {m : List D} {k v d : D} (h : d ∈ setK mp47.3 m k v) : d ∈ m ∨ d = .a [k, v] := by
  unfold setK at h
  cases hq : hasK mp47.3 m k with
  | true =>
    rw [hq] at h
    simp only [cond_true] at h
    rcases List.mem_or_eq_of_mem_set h with h | h
    · exact .inl h
    · exact .inr h
  | false =>
    rw [hq] at h
    simp only [cond_false] at h
    rcases List.mem_append.1 h with h | h
    · exact .inl h
    · exact .inr (List.mem_singleton.1 h)

/-- An end of a link of the first ones. -/
def EndOf (ls : List D) (i : Nat) (q : Int × Int) : Prop := ∃ j, j < i ∧ (q = (((ls.getD j default).at 0).int, ((ls.getD j default).at 1).int) ∨ q = (((ls.getD j default).at 2).int, ((ls.getD j default).at 3).int))
theorem mAt_keys (ls : List D) : ∀ i q, q ∈ (mAt ls i).map keyI → EndOf ls i q
  | 0, q, h => by simp [mAt] at h
  | i + 1, q, h => by
    obtain ⟨d, hd, rfl⟩ := List.mem_map.1 h
    unfold mAt at hd
    rcases setK_keys hd with hd | rfl
    · unfold mA at hd
      rcases setK_keys hd with hd | rfl
      · obtain ⟨j, hj, h2⟩ := mAt_keys ls i _ (List.mem_map_of_mem hd)
        exact ⟨j, by omega, h2⟩
      · exact ⟨i, by omega, .inl rfl⟩
    · exact ⟨i, by omega, .inr rfl⟩

theorem outB_false {n s p : Int} (h : outB n s p = false) : 1 ≤ s ∧ s ≤ n ∧ 1 ≤ p ∧ p ≤ 4 := by
  unfold outB at h
  simp at h
  omega
theorem good_keys {sw : Int} {ls : List D} (h : badG sw ls = false) : sw ≤ 6 ∧ ∀ q ∈ (mAt ls ls.length).map keyI, 1 ≤ q.1 ∧ q.1 ≤ 6 ∧ q.1 ≤ sw ∧ 1 ≤ q.2 ∧ q.2 ≤ 4 := by
  unfold badG at h
  simp only [Bool.or_eq_false_iff, decide_eq_false_iff_not] at h
  refine ⟨by omega, fun q hq => ?_⟩
  obtain ⟨j, hj, hc⟩ := mAt_keys ls _ q hq
  have hl := List.any_eq_false.1 h.2 j (by simpa using hj)
  simp only [badL, Bool.or_eq_true, not_or, Bool.not_eq_true] at hl
  have hA := hl.1; have hB := hl.2.1
  simp only [badA, badB, Bool.or_eq_false_iff] at hA hB
  have h1 := outB_false hA.2
  have h2 := outB_false hB.2
  rcases hc with rfl | rfl
  · simp only; omega
  · simp only; omega

def box24 : List (Int × Int) := ([0, 1, 2, 3, 4, 5, 6] : List Int).flatMap fun a => ([0, 1, 2, 3, 4] : List Int).map fun b => (a, b)
theorem apart_nodup {es : List D} (h : Apart mp47.3 es) : (es.map keyI).Nodup := by
  unfold List.Nodup
  rw [List.pairwise_map]
  refine List.Pairwise.imp ?_ h
  intro a b hab he
  have : keyB mp47.3 (a.at 0) (b.at 0) = true := (keyB_iff _ _).2 (by unfold keyI at he; simp only [Prod.mk.injEq] at he; exact he)
  rw [this] at hab; cases hab
theorem few_keys {sw : Int} {ls : List D} (h : badG sw ls = false) {ks : List (Int × Int)} (hn : ks.Nodup) (hs : ∀ q ∈ ks, q ∈ (mAt ls ls.length).map keyI) : ks.length ≤ 35 := by
  have := len_le (m := box24) hn (fun q hq => by
    obtain ⟨_, hg⟩ := good_keys h
    have hq2 := hg q (hs q hq)
    have h1 : q.1 = 0 ∨ q.1 = 1 ∨ q.1 = 2 ∨ q.1 = 3 ∨ q.1 = 4 ∨ q.1 = 5 ∨ q.1 = 6 := by omega
    have h2 : q.2 = 0 ∨ q.2 = 1 ∨ q.2 = 2 ∨ q.2 = 3 ∨ q.2 = 4 := by omega
    exact List.mem_flatMap.2 ⟨q.1, by simpa using h1, List.mem_map.2 ⟨q.2, by simpa using h2, rfl⟩⟩)
  exact Nat.le_trans this (by decide)

/-- The ports of a switch. -/
def portsI (sw : Int) (ls : List D) (s : Int) : List Int := bif badG sw ls then [] else ([1, 2, 3, 4] : List Int).filter fun p => hasK mp47.3 (mAt ls ls.length) (kE s p)

theorem sorted_eq : ∀ {a b : List Int}, a.Pairwise (· < ·) → b.Pairwise (· < ·) → (∀ x, x ∈ a ↔ x ∈ b) → a = b
  | [], [], _, _, _ => rfl
  | [], y :: b, _, _, h => by have := (h y).2 (by simp); simp at this
  | x :: a, [], _, _, h => by have := (h x).1 (by simp); simp at this
  | x :: a, y :: b, ha, hb, h => by
    rw [List.pairwise_cons] at ha hb
    have exy : x = y := by
      have h1 := (h x).1 (by simp)
      have h2 := (h y).2 (by simp)
      rcases List.mem_cons.1 h1 with e | h1
      · exact e
      · rcases List.mem_cons.1 h2 with e | h2
        · exact e.symm
        · have := ha.1 y h2; have := hb.1 x h1; omega
    subst exy
    congr 1
    refine sorted_eq ha.2 hb.2 fun z => ?_
    have := h z
    simp only [List.mem_cons] at this
    constructor
    · intro hz
      rcases this.1 (.inr hz) with e | h3
      · have := ha.1 z hz; omega
      · exact h3
    · intro hz
      rcases this.2 (.inr hz) with e | h3
      · have := hb.1 z hz; omega
      · exact h3

theorem outP_eq {sw : Int} {ls : List D} (h : badG sw ls = false) {ss : List (Int × Int)} (hn : ss.Nodup) (hm : ∀ q, q ∈ ss ↔ q ∈ (mAt ls ls.length).map keyI) (hso : ss.Pairwise (fun a b => a.2 ≤ b.2)) (s : Int) : outP s ss = portsI sw ls s := by
  unfold portsI
  rw [h, cond_false]
  refine sorted_eq ?_ ?_ ?_
  · unfold outP
    rw [List.pairwise_map]
    have h1 : (ss.filter fun p => p.1 == s).Pairwise (fun a b => a.2 ≤ b.2 ∧ a ≠ b) := List.Pairwise.filter _ (List.Pairwise.and hso hn)
    refine List.Pairwise.imp_of_mem ?_ h1
    intro a b ha hb hab
    have ea : a.1 = s := by simpa using (List.mem_filter.1 ha).2
    have eb : b.1 = s := by simpa using (List.mem_filter.1 hb).2
    have : a.2 ≠ b.2 := fun e => hab.2 (Prod.ext (ea.trans eb.symm) e)
    omega
  · exact List.Pairwise.filter _ (by decide)
  · intro x
    unfold outP
    simp only [List.mem_map, List.mem_filter, beq_iff_eq]
    constructor
    · rintro ⟨q, ⟨hq, rfl⟩, rfl⟩
      have hq' := (hm q).1 hq
      have hg := (good_keys h).2 q hq'
      refine ⟨?_, hasK_iff.2 hq'⟩
      have : q.2 = 1 ∨ q.2 = 2 ∨ q.2 = 3 ∨ q.2 = 4 := by omega
      rcases this with e | e | e | e <;> rw [e] <;> decide
    · rintro ⟨_, hx⟩
      exact ⟨(s, x), ⟨(hm _).2 (hasK_iff.1 hx), rfl⟩, rfl⟩

abbrev LINKs : Sh := .agg [.int .i64, .int .i64, .int .i64, .int .i64]
abbrev GRa (sw : Int) (nl : Bool) (ls : List D) : SV := .agg [.si .i64 sw, .lst LINKs nl ls]

/-- What sides answers, in the world. -/
theorem sides_w (sw : Int) (nl : Bool) (ls : List D) (hs : shortB ls.length = true) {Φ : Nat → Prop} {w : World} (hphi : ∀ k, Φ k → k < w.heap.size) {lv : Value} (hl : DenD Φ w (.list LINKs) (.l nl ls) lv) :
    Calls Try.prog 24 #[.agg #[.int .i64 sw, lv]] w fun e w2 => ∃ mb may ents clock es', e = .returned (.tuple #[.map mb, .bool may]) ∧ Below w.heap.size w w2 ∧ may = !badG sw ls ∧
      (match mb with
       | none => badG sw ls = true
       | some b => badG sw ls = false ∧ w2.heap[b]? = some (.map (List.toArray ents) clock) ∧ (∀ x ∈ ents, x.born < clock) ∧ (ents.map (·.born)).Nodup ∧ Apart mp47.3 (mAt ls ls.length) ∧ List.Perm es' (mAt ls ls.length) ∧ ents.map (fun x => (x.key, x.val)) = es'.map fun d => (encE (keyI d), encS (valI d))) := by
  have hden : DenL (fun _ => none) Φ w [GRa sw nl ls] [.agg #[.int .i64 sw, lv]] := by
    refine .one ?_
    simp only [Den]
    refine ⟨[.int .i64 sw, lv], rfl, .cons ?_ (.one ?_)⟩
    · simp only [Den]
    · simp only [Den]; exact hl
  cases hb : badG sw ls with
  | true =>
    have hrun : (.need (shortB ls.length) (.ite (badG sw ls) (.ret (.tup [.val (.map none), .sb false], [])) (.ret (.tup [.mp 0, .sb true], [some ⟨.mapc mp47.3 mp47.4 (mAt ls ls.length), 47, false⟩]))) : Tree (SV × Hp)).run = some (.tup [.val (.map none), .sb false], []) := by
      simp only [Tree.run_need', Tree.run_ite', Tree.run_ret', hs, hb, cond_true]
    refine ((callG_ok (T := tab) follows (envOf_good _ _ _) (sides_run sw nl ls hrun)).2 _ Φ w _ (rel_empty hphi) hden).mono ?_
    rintro e w2 ⟨v, ρ', Φ', rfl, hd, hr, hg⟩
    simp only [Den] at hd
    obtain ⟨vs, rfl, hd⟩ := hd
    simp only [DenL, Den] at hd
    obtain ⟨_, _, rfl, rfl, _, _, rfl, rfl, rfl⟩ := hd
    exact ⟨none, false, [], 0, [], rfl, hg.old, rfl, rfl⟩
  | false =>
    have hrun : (.need (shortB ls.length) (.ite (badG sw ls) (.ret (.tup [.val (.map none), .sb false], [])) (.ret (.tup [.mp 0, .sb true], [some ⟨.mapc mp47.3 mp47.4 (mAt ls ls.length), 47, false⟩]))) : Tree (SV × Hp)).run = some (.tup [.mp 0, .sb true], [some ⟨.mapc mp47.3 mp47.4 (mAt ls ls.length), 47, false⟩]) := by
      simp only [Tree.run_need', Tree.run_ite', Tree.run_ret', hs, hb, cond_true, cond_false]
    refine ((callG_ok (T := tab) follows (envOf_good _ _ _) (sides_run sw nl ls hrun)).2 _ Φ w _ (rel_empty hphi) hden).mono ?_
    rintro e w2 ⟨v, ρ', Φ', rfl, hd, hr, hg⟩
    simp only [Den] at hd
    obtain ⟨vs, rfl, hd⟩ := hd
    simp only [DenL, Den] at hd
    obtain ⟨_, _, rfl, ⟨g, hm, rfl⟩, _, _, rfl, rfl, rfl⟩ := hd
    obtain ⟨m, hm2, hblk⟩ := hr.own 0 _ rfl
    rw [hm] at hm2
    simp only [Option.some.injEq] at hm2
    subst hm2
    obtain ⟨g', ents, clock, hgg, hheap, hnd, hold, hap, es', hperm, hents⟩ := hblk
    simp only [Nm.blk.injEq] at hgg
    subst hgg
    exact ⟨some g, true, ents, clock, es', rfl, hg.old, rfl, hb ▸ rfl, hheap, hold, hnd, hap, hperm, ents_kv hents⟩

theorem ints_rows {Φ : Nat → Prop} {w : World} : ∀ l : List Int, RowsP (fun d v => DenD Φ w (.int .i64) d v) false 1 (l.map D.i) (l.map (.int .i64))
  | [] => by simp only [List.map_nil, RowsP]
  | x :: r => by
    simp only [List.map_cons, RowsP]
    exact ⟨[.int .i64 x], r.map (.int .i64), rfl, rfl, by simp [packV, DenD, D.int], ints_rows r⟩

/-- Ports. -/
theorem ports_ok (sw : Int) (nl : Bool) (ls : List D) (s : Int) (hs : shortB ls.length = true) :
    CallOK Try.prog 16 [GRa sw nl ls, .si .i64 s] [] (.own 0) [some ⟨.rows (.int .i64) ((portsI sw ls s).map D.i).isEmpty ((portsI sw ls s).map D.i), 3, false⟩] := by
  intro ρ Φ w vs hr hd
  simp only [DenL, Den] at hd
  obtain ⟨_, _, rfl, ⟨_, rfl, _, _, rfl, rfl, lv, _, rfl, hl, rfl⟩, _, _, rfl, rfl, rfl⟩ := hd
  have hρ : ρ = fun _ => none := by
    funext k
    cases h : ρ k with
    | none => rfl
    | some m => have := hr.dom k m h; simp at this
  subst hρ
  have hl0 := hl
  simp only [DenD, D.nl, D.xs] at hl
  obtain ⟨la, lc, rfl, _⟩ := hl
  have hlow : Below w.heap.size w (w.alloc (.cells #[.int .i64 sw, .slice la ls.length lc] 24)) := (Below.refl _ w).alloc (Nat.le_refl _) _
  have hl1 : DenD Φ (w.alloc (.cells #[.int .i64 sw, .slice la ls.length lc] 24)) (.list LINKs) (.l nl ls) (.slice la ls.length lc) := DenD.mono (Ext.of_below hr.phi hlow) (fun _ h => h) hl0
  have hsd := sides_w sw nl ls hs (Φ := Φ) (fun k hk => Nat.lt_of_lt_of_le (hr.phi k hk) hlow.size) hl1
  have hkI : ∀ (es' : List D), (es'.map fun d => (encE (keyI d), encS (valI d))).map (·.1) = (es'.map keyI).map encE := fun es' => by simp [List.map_map, Function.comp_def]
  obtain ⟨ks, hks⟩ : ∃ ks : List (Int × Int), ks = bif badG sw ls then [] else (mAt ls ls.length).map keyI := ⟨_, rfl⟩
  have hsd2 : Calls Try.prog 24 #[.agg #[.int .i64 sw, .slice la ls.length lc]] (w.alloc (.cells #[.int .i64 sw, .slice la ls.length lc] 24)) fun e w2 => ∃ mb may ks', e = .returned (.tuple #[.map mb, .bool may]) ∧ KeysAt w2 mb ks' ∧ ks'.Perm ks ∧ (badG sw ls = false → ks.Nodup) ∧ Below (w.heap.size + 1) (w.alloc (.cells #[.int .i64 sw, .slice la ls.length lc] 24)) w2 := by
    refine hsd.mono ?_
    rintro e w2 ⟨mb, may, ents, clock, es', rfl, hb, _, h⟩
    rw [World.size_alloc] at hb
    cases mb with
    | none =>
      have h' : badG sw ls = true := h
      exact ⟨none, may, [], rfl, rfl, by rw [hks, h']; exact List.Perm.refl _, fun hc => (by rw [h'] at hc; cases hc), hb⟩
    | some b =>
      obtain ⟨h0, h1, h2, h3, h4, h5, h6⟩ := h
      refine ⟨some b, may, es'.map keyI, rfl, ⟨ents, clock, h1, h2, h3, ?_⟩, by rw [hks, h0]; exact h5.map _, fun _ => by rw [hks, h0]; exact apart_nodup h4, hb⟩
      have := congrArg (List.map (·.1)) h6
      rw [hkI] at this
      simpa [List.map_map, Function.comp_def] using this
  have hnd : badG sw ls = false → ks.Nodup := by
    obtain ⟨e, w2, fr, ⟨_, _, _, _, _, _, h, _⟩, _⟩ := hsd2 []
    exact h
  have hmem : badG sw ls = false → ∀ q, q ∈ ks ↔ q ∈ (mAt ls ls.length).map keyI := fun h q => by rw [hks, h]; rfl
  have hnil : badG sw ls = true → ks = [] := fun h => by rw [hks, h]; rfl
  have hp : ∀ k ∈ ks, 0 ≤ k.2 ∧ k.2 ≤ 100 := by
    intro k hk
    cases hb : badG sw ls with
    | true => rw [hnil hb] at hk; cases hk
    | false => have := (good_keys hb).2 k ((hmem hb k).1 hk); omega
  have hkl : ks.length ≤ 1000 := by
    cases hb : badG sw ls with
    | true => rw [hnil hb]; simp
    | false => exact Nat.le_trans (few_keys hb (hnd hb) fun q hq => (hmem hb q).1 hq) (by decide)
  refine (ports_calls sw s la ls.length lc w ks hp hkl (hsd2.mono fun e w2 ⟨mb, may, ks', h1, h2, h3, _, h4⟩ => ⟨mb, may, ks', h1, h2, h3, h4⟩)).mono ?_
  rintro e w' ⟨v, ss, rfl, hS, hso, hrow, hn, hb⟩
  have hout : outP s ss = portsI sw ls s := by
    cases hbg : badG sw ls with
    | true =>
      have : ss = [] := by have := hS.length_eq; rw [hnil hbg] at this; exact List.eq_nil_of_length_eq_zero this
      subst this
      simp [outP, portsI, hbg]
    | false => exact outP_eq hbg (hS.nodup_iff.2 (hnd hbg)) (fun q => (hS.mem_iff).trans (hmem hbg q)) hso s
  rw [hout] at hrow hn
  obtain ⟨ρ', h1, h2, h3⟩ := own_new (sh := .int .i64) (xs := (portsI sw ls s).map D.i) hr.phi hrow (ints_rows _) (by simp) (by rw [hn]; simp) hb
  exact ⟨v, ρ', Φ, rfl, h1, h2, h3⟩

end Go.Proofs.Ytmokkonnilmdfaa
