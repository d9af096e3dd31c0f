/-
  From a function's run to its row: 'row_of'; arguments laid open: 'open_plain'; what a tree gives: 'Tree.gives'.
  No statement of the seat is proved here. Conditions: none.
-/
import Derived.Test.YtkkbbifhaanamaaSxDraw3
import Derived.ProofKit
import Derived.OpenShut
set_option linter.unusedSimpArgs false
set_option linter.unusedVariables false
namespace Go.Sx
open Go.RowKit Go.WideShapes Go.ChangeShapes

/-! ### 1. What a tree gives -/

/-- On whatever way it goes, the tree comes to this value. -/
def Tree.gives (t : Tree SV) (v : Value) : Prop := ∃ r, t.run = some r ∧ r.low 0 = true ∧ ∀ ρ, r.den ρ = v

theorem Tree.gives_ret {r : SV} {v : Value} : (Tree.ret r).gives v ↔ r.low 0 = true ∧ ∀ ρ, r.den ρ = v := by
  constructor
  · rintro ⟨r', h, h1, h2⟩; simp only [Tree.run, Option.some.injEq] at h; subst h; exact ⟨h1, h2⟩
  · rintro ⟨h1, h2⟩; exact ⟨r, rfl, h1, h2⟩
theorem Tree.gives_need {p : Bool} {t : Tree SV} {v : Value} : (Tree.need p t).gives v ↔ p = true ∧ t.gives v := by
  cases p <;> simp [Tree.gives, Tree.run]
theorem Tree.gives_ite {b : Bool} {t e : Tree SV} {v : Value} : (Tree.ite b t e).gives v ↔ (b = true → t.gives v) ∧ (b = false → e.gives v) := by
  cases b <;> simp [Tree.gives, Tree.run]

/-- A function's run gives this value: so does its call. -/
theorem calls_of_gives {P : Program} {specs : Specs} (hm : P.follows .mixedOrders = true) (hspecs : GoodSpecs P specs) {rounds depth : Nat} {f : FuncId} {args : List SV} {v : Value} (h : (runF P specs rounds depth f args).gives v) (w : World) :
    Enters P f ∧ Calls P f (SV.denL id args).toArray w fun e w' => e = .returned v ∧ Below w.heap.size w w' := by
  obtain ⟨r, h1, h2, h3⟩ := h
  obtain ⟨he, hc⟩ := calls_of_run hm hspecs h1 id w h2
  refine ⟨he, hc.mono ?_⟩
  rintro e w' ⟨rfl, hb⟩
  exact ⟨by rw [h3], hb⟩

theorem good_none {P : Program} : GoodSpecs P (fun _ => none) := ⟨fun f args r h => by simp [trySpec] at h, fun f args pre r h => by simp [trySpec] at h⟩

/-! ### 2. Arguments -/

/-- Of each cell of a type: an integer's kind; 'none': a bool. -/
def kindsOf (P : Program) : List TypeId → Option (List (Option IntKind))
  | [] => some []
  | u :: r => match P.underlying u, kindsOf P r with
    | some (.int k), some l => some (some k :: l)
    | some .bool, some l => some (none :: l)
    | _, _ => none

/-- Cells of these kinds. -/
def Fits : List (Option IntKind) → List SV → Prop
  | [], l => l = []
  | some k :: r, l => ∃ n l', l = .si k n :: l' ∧ (Lit.int k n).wf = true ∧ Fits r l'
  | none :: r, l => ∃ b l', l = .sb b :: l' ∧ Fits r l'

theorem fits_cells {P : Program} {W : World} {r : Reach} {base : Nat} : ∀ (ts : List TypeId) (ks : List (Option IntKind)) (cs : List Value), kindsOf P ts = some ks → cs.length = ts.length →
    (∀ (i : Nat) (v : Value), cs[i]? = some v → ∃ u, ts[i]? = some u ∧ Cell.okWide P W r base u v) → ∃ svs, cs = SV.denL id svs ∧ Fits ks svs
  | [], ks, cs, hk, hl, _ => by
    simp only [kindsOf, Option.some.injEq] at hk; subst hk
    have : cs = [] := List.length_eq_zero_iff.1 hl
    subst this
    exact ⟨[], by simp [SV.denL], rfl⟩
  | u :: ts, ks, [], hk, hl, _ => by simp at hl
  | u :: ts, ks, c :: cs, hk, hl, h => by
    obtain ⟨u', hu', hc⟩ := h 0 c rfl
    simp at hu'; subst hu'
    simp only [kindsOf] at hk
    split at hk
    · rename_i k l hu hkl
      simp only [Option.some.injEq] at hk; subst hk
      obtain ⟨svs, h1, h2⟩ := fits_cells ts l cs hkl (by simpa using hl) (fun i v hi => by simpa using h (i + 1) v (by simpa using hi))
      unfold Cell.okWide at hc
      rw [hu] at hc
      have hc' : Cell.ok P W r base u c := by cases c <;> exact hc
      unfold Cell.ok at hc'
      rw [hu] at hc'
      cases c <;> simp only at hc'
      rename_i k' n
      obtain ⟨rfl, hn⟩ := hc'
      refine ⟨.si k' n :: svs, by simp [SV.denL, SV.den, h1], n, svs, rfl, ?_, h2⟩
      simp only [Lit.wf, Bool.and_eq_true, decide_eq_true_eq]
      exact hn
    · rename_i l hu hkl
      simp only [Option.some.injEq] at hk; subst hk
      obtain ⟨svs, h1, h2⟩ := fits_cells ts l cs hkl (by simpa using hl) (fun i v hi => by simpa using h (i + 1) v (by simpa using hi))
      unfold Cell.okWide at hc
      rw [hu] at hc
      have hc' : Cell.ok P W r base u c := by cases c <;> exact hc
      unfold Cell.ok at hc'
      rw [hu] at hc'
      cases c <;> simp only at hc'
      rename_i b
      exact ⟨.sb b :: svs, by simp [SV.denL, SV.den, h1], b, svs, rfl, h2⟩
    · simp at hk

/-- A struct or an array of integers and bools, by value. -/
theorem open_plain {P : Program} {W : World} {r : Reach} {base : Nat} {t : TypeId} {v : Value} {ts : List TypeId} {ks : List (Option IntKind)} (ha : aggT P t = some true) (hts : P.cellTypes P.depth t = some ts) (hn : P.cellsOf t = ts.length) (hk : kindsOf P ts = some ks) (h : Value.okWide P W r base t v) :
    ∃ svs, v = .agg (SV.denL id svs).toArray ∧ Fits ks svs := by
  have key : ∃ cs, v = .agg cs ∧ cs.size = P.cellsOf t ∧ Row.okWide P W r base t cs := by
    unfold aggT at ha
    unfold Value.okWide at h
    split at ha
    · rename_i fs hu; rw [hu] at h; exact h
    · rename_i n e hu; rw [hu] at h; exact h
    · simp at ha
    · simp at ha
  obtain ⟨cs, rfl, hsz, ts', hts', _, hcs⟩ := key
  rw [hts] at hts'
  simp only [Option.some.injEq] at hts'; subst hts'
  obtain ⟨svs, h1, h2⟩ := fits_cells ts ks cs.toList hk (by simp; omega) (by
    intro i c hi
    have hi' : cs[i]? = some c := by simpa using hi
    have hlt : i < ts.length := by
      have := (Array.getElem?_eq_some_iff.1 hi').1; omega
    obtain ⟨u, hu, hc⟩ := hcs i c hi'
    rw [Nat.mod_eq_of_lt hlt] at hu
    exact ⟨u, hu, hc⟩)
  exact ⟨svs, by rw [← h1], h2⟩

/-- Of a struct or an array of integers and bools: its cells' kinds. -/
def plainKinds (P : Program) (t : TypeId) : Option (List (Option IntKind)) :=
  match aggT P t, P.cellTypes P.depth t with
  | some true, some ts => if Nat.beq (P.cellsOf t) ts.length then kindsOf P ts else none
  | _, _ => none

theorem open_kinds {P : Program} {W : World} {r : Reach} {base : Nat} {t : TypeId} {v : Value} {ks : List (Option IntKind)} (hk : plainKinds P t = some ks) (h : Value.okWide P W r base t v) :
    ∃ svs, v = .agg (SV.denL id svs).toArray ∧ Fits ks svs := by
  unfold plainKinds at hk
  split at hk
  · rename_i ts ha hts
    split at hk
    · rename_i hn
      exact open_plain ha hts (by simpa using hn) hk h
    · cases hk
  · cases hk

theorem open_one {P : Program} {W : World} {r : Reach} {base : Nat} {t : TypeId} {v : Value} {k : IntKind} (hu : P.underlying t = some (.int k)) (h : Value.okWide P W r base t v) : ∃ n, v = .int k n ∧ (Lit.int k n).wf = true := by
  unfold Value.okWide at h
  rw [hu] at h
  simp only at h
  unfold Cell.okWide at h
  rw [hu] at h
  have hc' : Cell.ok P W r base t v := by cases v <;> exact h
  unfold Cell.ok at hc'
  rw [hu] at hc'
  cases v <;> simp only at hc'
  rename_i k' n
  obtain ⟨rfl, hn⟩ := hc'
  refine ⟨n, rfl, ?_⟩
  simp only [Lit.wf, Bool.and_eq_true, decide_eq_true_eq]
  exact hn

/-! ### 3. The row -/
section
variable {H : Type} {enc : TypeId × Value → H} {P : Program}
theorem post_of_below {f : Func} {s : ChangeSpec} {apart fresh handsOn again : Bool} {W W' : World} {args : Array Value} {v : Value} {ds gs : List (DataW H)} {before pa pv : List MemPlace}
    (hW : DataW.Whole enc P f.params.toList s.vars apart W args.toList ds gs before)
    (hres : ∀ (b : Nat) (sp : Nat → Bool) (hd : Bool), DataW.TrodAll enc P W' b sp hd f.resultTypes.toList (v.resultList f.resultTypes.size) (s.fn H (ds ++ gs)).results [])
    (hargs : ∀ sp : Nat → Bool, (∀ p ∈ before, sp p.block = true) → DataW.TrodAll enc P W' 0 sp true f.params.toList args.toList (s.fn H (ds ++ gs)).args pa)
    (hvars : ∀ sp : Nat → Bool, (∀ p ∈ before, sp p.block = true) → DataW.TrodVars enc P W' sp s.vars (s.fn H (ds ++ gs)).vars pv)
    (hps : before = pa ++ pv) (hb : Below W.heap.size W W')
    (hok : ∀ (j : Nat) (t : TypeId) (r : Value), f.resultTypes[j]? = some t → (v.resultList f.resultTypes.size)[j]? = some r → Value.okWide P W' .any 0 t r) :
    s.post enc P f apart fresh handsOn again W args v W' := by
  have hlt : ∀ p ∈ before, p.block < W.heap.size := fun p hp => hW.lt p hp
  have hold : ∀ p ∈ before, (fun b => decide (b < W.heap.size)) p.block = true := fun p hp => by simpa using hlt p hp
  refine ⟨ds, gs, before, [], pa, pv, hW, hres _ _ _, hargs _ hold, hvars _ hold, World.keptBut_mono (fun p hp => ⟨hp, ?_⟩) (hb.frame (· ∈ before)), fun _ => ?_⟩
  · rw [hps, List.mem_append] at hp
    exact Or.inr hp
  · obtain ⟨_, _, _, _, _, hz, hn⟩ := hW
    refine ⟨hok, _, _, ([] ++ pa) ++ pv, ⟨[] ++ pa, pv, trodAll_append (hargs _ (fun _ _ => rfl)) (hres _ _ _), hvars _ (fun _ _ => rfl), rfl, ?_, ?_⟩, ?_⟩
    · intro b off hp
      have hin : MemPlace.cell b off ∈ before := by rw [hps]; simpa using hp
      rw [hb.frozen (hlt _ hin)]
      exact hz b off hin
    · intro ha
      have := hn ha
      rw [hps] at this
      simpa using this
    · intro p hp _
      rw [hps]
      simpa using hp

/-- All arguments read behind the call as before. -/
theorem trodAll_below (hl : laidOutB P = true) {W W' : World} (hb : Below W.heap.size W W') {sp : Nat → Bool} : ∀ (ts : List TypeId) (vs : List Value) (ds : List (DataW H)) (ps : List MemPlace),
    (∀ t ∈ ts, P.readableRec t = true ∧ t < P.types.size) → DataW.TrodAll enc P W 0 (fun _ => true) true ts vs ds ps → (∀ x ∈ ps, x.block < W.heap.size ∧ sp x.block = true) → DataW.TrodAll enc P W' 0 sp true ts vs ds ps
  | [], [], [], ps, _, h, _ => h
  | t :: ts, v :: vs, d :: ds, ps, hr, h, hps => by
    obtain ⟨p, q, h1, h2, rfl⟩ := h
    refine ⟨p, q, ?_, trodAll_below hl hb ts vs ds q (fun t ht => hr t (by simp [ht])) h2 (fun x hx => hps x (by simp [hx])), rfl⟩
    have hrt := hr t (by simp)
    exact WideElems.Trod_stays hl hrt.1 hrt.2 h1 (fun x hx => hb.same (hps x (by simp [hx])).1) (fun x hx => (hps x (by simp [hx])).2)
  | [], _ :: _, _, _, _, h, _ => h.elim
  | [], [], _ :: _, _, _, h, _ => h.elim
  | _ :: _, [], _, _, _, h, _ => h.elim
  | _ :: _, _ :: _, [], _, _, h, _ => h.elim

theorem trodAll_length {W : World} {base : Nat} {sp : Nat → Bool} {hd : Bool} : ∀ (ts : List TypeId) (vs : List Value) (ds : List (DataW H)) (ps : List MemPlace), DataW.TrodAll enc P W base sp hd ts vs ds ps → vs.length = ts.length ∧ ds.length = ts.length
  | [], [], [], ps, h => ⟨rfl, rfl⟩
  | t :: ts, v :: vs, d :: ds, ps, h => by
    obtain ⟨p, q, h1, h2, rfl⟩ := h
    have := trodAll_length ts vs ds q h2
    simp [this.1, this.2]
  | [], _ :: _, _, _, h => h.elim
  | [], [], _ :: _, _, h => h.elim
  | _ :: _, [], _, _, h => h.elim
  | _ :: _, _ :: _, [], _, h => h.elim
end

/-- A law's row: whatever its arguments are, its call returns true and leaves what was there. -/
theorem row_of {H : Type} {enc : TypeId × Value → H} {C : Checked} {os : Os} {K : FuncId} {fn : Func} {s : ChangeSpec} {conds : List PathCond} {again : Bool} {tb : TypeId}
    (own : ownKnob C.prog.godebug = none) (started : os.Started) (noInit : C.prog.inits.idxOf? K = none) (hfn : C.prog.funcs[K]? = some fn)
    (witness : ∃ (w : World) (tape : Tape) (i : Input), w.os = os ∧ (w.forCall tape i).Shaped C.prog ∧ i.vars = [] ∧ Input.okWide C.prog (w.forCall tape i) .any w.heap.size K i ∧
      s.pre6 enc C.prog fn conds false (w.forCall tape i).memory i.args ∧ ({} : Assume).holds C.prog (lone (Frame.enter C.prog K i.args .normal) [] (w.forCall tape i)))
    (hl : laidOutB C.prog = true) (hrd : fn.params.toList.all (fun t => C.prog.readableRec t && decide (t < C.prog.types.size)) = true)
    (hv : s.vars = []) (hrt : fn.resultTypes = #[tb]) (hub : C.prog.underlying tb = some .bool)
    (hspec : ∀ ds : List (DataW H), ds.length = fn.params.size → s.fn H ds = { results := [.lit (.bool true)], args := ds })
    (hcalls : ∀ (W : World) (base : Nat) (args : Array Value) (ds : List (DataW H)) (ps : List MemPlace), args.size = fn.params.size →
      (∀ (j : Nat) t v, fn.params[j]? = some t → args[j]? = some v → Value.okWide C.prog W .any base t v) → DataW.TrodAll enc C.prog W 0 (fun _ => true) true fn.params.toList args.toList ds ps → (∀ x ∈ ps, x.block < W.heap.size) →
      Calls C.prog K args W fun e W' => e = .returned (.bool true) ∧ Below W.heap.size W W') :
    ReturnsInHanded {} C os K .any (s.pre6 enc C.prog fn conds false) (s.post enc C.prog fn false true false again) := by
  refine returnsInHanded_of_change own started noInit hfn witness ?_
  intro W base args ds gs before hval hW _ _
  have hW' := hW
  obtain ⟨p, q, hA, hV, hpq, hfz, hnd⟩ := hW
  have hV' : gs = [] ∧ q = [] := by
    rw [hv] at hV
    cases gs with
    | nil => exact ⟨rfl, hV⟩
    | cons g gs => exact hV.elim
  obtain ⟨rfl, rfl⟩ := hV'
  simp only [List.append_nil] at hpq
  subst hpq
  have hlt : ∀ x ∈ before, x.block < W.heap.size := fun x hx => hW'.lt x hx
  obtain ⟨hlen1, hlen2⟩ := trodAll_length _ _ _ _ hA
  have hsz : args.size = fn.params.size := by simpa using hlen1
  refine (hcalls W base args ds before hsz hval hA hlt).mono ?_
  rintro e W' ⟨rfl, hb⟩
  have hs := hspec ds (by simpa using hlen2)
  refine ⟨_, rfl, post_of_below (pa := before) (pv := []) hW' ?_ ?_ ?_ (by simp) hb ?_⟩
  · intro b sp hd
    rw [List.append_nil, hs, hrt]
    exact trodAll_cons_mk (shut_bool hub _) trodAll_mk0
  · intro sp hsp
    rw [List.append_nil, hs]
    refine trodAll_below hl hb _ _ _ _ ?_ hA (fun x hx => ⟨hlt x hx, hsp x hx⟩)
    intro t ht
    have := List.all_eq_true.1 hrd t ht
    simpa using this
  · intro sp hsp
    rw [List.append_nil, hs, hv]
    rfl
  · exact ok_one hrt rfl (okWide_bool_mk hub _)

end Go.Sx
