/-
  From a call's run to a law's row ('law_row').
  No statement of the seat is proved here. Conditions: none.
-/
import Derived.Test.YtmokkonnilmdfaaY23
set_option linter.unusedSimpArgs false
set_option linter.unusedVariables false
namespace Go.Sy
open Go.RowKit Go.WideShapes Go.ChangeShapes

/-! ### 1. The row -/
section
variable {H : Type} {enc : TypeId × Value → H} {P : Program}
theorem post_of_below {f : Func} {s : ChangeSpec} {apart fresh handsOn again : Bool} {W W' : World} {args : Array Value} {v : Value} {ds gs : List (DataW H)} {before pa pv : List MemPlace}
    (hW : DataW.Whole enc P f.params.toList s.vars apart W args.toList ds gs before)
    (hres : ∀ (b : Nat) (sp : Nat → Bool) (hd : Bool), DataW.TrodAll enc P W' b sp hd f.resultTypes.toList (v.resultList f.resultTypes.size) (s.fn H (ds ++ gs)).results [])
    (hargs : ∀ sp : Nat → Bool, (∀ p ∈ before, sp p.block = true) → DataW.TrodAll enc P W' 0 sp true f.params.toList args.toList (s.fn H (ds ++ gs)).args pa)
    (hvars : ∀ sp : Nat → Bool, (∀ p ∈ before, sp p.block = true) → DataW.TrodVars enc P W' sp s.vars (s.fn H (ds ++ gs)).vars pv)
    (hps : before = pa ++ pv) (hb : Below W.heap.size W W')
    (hok : ∀ (j : Nat) (t : TypeId) (r : Value), f.resultTypes[j]? = some t → (v.resultList f.resultTypes.size)[j]? = some r → Value.okWide P W' .any 0 t r) :
    s.post enc P f apart fresh handsOn again W args v W' := by
  have hlt : ∀ p ∈ before, p.block < W.heap.size := fun p hp => hW.lt p hp
  have hold : ∀ p ∈ before, (fun b => decide (b < W.heap.size)) p.block = true := fun p hp => by simpa using hlt p hp
  refine ⟨ds, gs, before, [], pa, pv, hW, hres _ _ _, hargs _ hold, hvars _ hold, World.keptBut_mono (fun p hp => ⟨hp, ?_⟩) (hb.frame (· ∈ before)), fun _ => ?_⟩
  · rw [hps, List.mem_append] at hp
    exact Or.inr hp
  · obtain ⟨_, _, _, _, _, hz, hn⟩ := hW
    refine ⟨hok, _, _, ([] ++ pa) ++ pv, ⟨[] ++ pa, pv, trodAll_append (hargs _ (fun _ _ => rfl)) (hres _ _ _), hvars _ (fun _ _ => rfl), rfl, ?_, ?_⟩, ?_⟩
    · intro b off hp
      have hin : MemPlace.cell b off ∈ before := by rw [hps]; simpa using hp
      rw [hb.frozen (hlt _ hin)]
      exact hz b off hin
    · intro ha
      have := hn ha
      rw [hps] at this
      simpa using this
    · intro p hp _
      rw [hps]
      simpa using hp

/-- All arguments read behind the call as before. -/
theorem trodAll_below (hl : laidOutB P = true) {W W' : World} (hb : Below W.heap.size W W') {sp : Nat → Bool} : ∀ (ts : List TypeId) (vs : List Value) (ds : List (DataW H)) (ps : List MemPlace),
    (∀ t ∈ ts, P.readableRec t = true ∧ t < P.types.size) → DataW.TrodAll enc P W 0 (fun _ => true) true ts vs ds ps → (∀ x ∈ ps, x.block < W.heap.size ∧ sp x.block = true) → DataW.TrodAll enc P W' 0 sp true ts vs ds ps
  | [], [], [], ps, _, h, _ => h
  | t :: ts, v :: vs, d :: ds, ps, hr, h, hps => by
    obtain ⟨p, q, h1, h2, rfl⟩ := h
    refine ⟨p, q, ?_, trodAll_below hl hb ts vs ds q (fun t ht => hr t (by simp [ht])) h2 (fun x hx => hps x (by simp [hx])), rfl⟩
    have hrt := hr t (by simp)
    exact WideElems.Trod_stays hl hrt.1 hrt.2 h1 (fun x hx => hb.same (hps x (by simp [hx])).1) (fun x hx => (hps x (by simp [hx])).2)
  | [], _ :: _, _, _, _, h, _ => h.elim
  | [], [], _ :: _, _, _, h, _ => h.elim
  | _ :: _, [], _, _, _, h, _ => h.elim
  | _ :: _, _ :: _, [], _, _, h, _ => h.elim

theorem trodAll_length {W : World} {base : Nat} {sp : Nat → Bool} {hd : Bool} : ∀ (ts : List TypeId) (vs : List Value) (ds : List (DataW H)) (ps : List MemPlace), DataW.TrodAll enc P W base sp hd ts vs ds ps → vs.length = ts.length ∧ ds.length = ts.length
  | [], [], [], ps, h => ⟨rfl, rfl⟩
  | t :: ts, v :: vs, d :: ds, ps, h => by
    obtain ⟨p, q, h1, h2, rfl⟩ := h
    have := trodAll_length ts vs ds q h2
    simp [this.1, this.2]
  | [], _ :: _, _, _, h => h.elim
  | [], [], _ :: _, _, h => h.elim
  | _ :: _, [], _, _, h => h.elim
  | _ :: _, _ :: _, [], _, h => h.elim
end

/-- A law's row: whatever its arguments are, its call returns true and leaves what was there. -/
theorem row_of {H : Type} {enc : TypeId × Value → H} {C : Checked} {os : Os} {K : FuncId} {fn : Func} {s : ChangeSpec} {conds : List PathCond} {again : Bool} {tb : TypeId}
    (own : ownKnob C.prog.godebug = none) (started : os.Started) (noInit : C.prog.inits.idxOf? K = none) (hfn : C.prog.funcs[K]? = some fn)
    (witness : ∃ (w : World) (tape : Tape) (i : Input), w.os = os ∧ (w.forCall tape i).Shaped C.prog ∧ i.vars = [] ∧ Input.okWide C.prog (w.forCall tape i) .any w.heap.size K i ∧
      s.pre6 enc C.prog fn conds false (w.forCall tape i).memory i.args ∧ ({} : Assume).holds C.prog (lone (Frame.enter C.prog K i.args .normal) [] (w.forCall tape i)))
    (hl : laidOutB C.prog = true) (hrd : fn.params.toList.all (fun t => C.prog.readableRec t && decide (t < C.prog.types.size)) = true)
    (hv : s.vars = []) (hrt : fn.resultTypes = #[tb]) (hub : C.prog.underlying tb = some .bool)
    (hspec : ∀ ds : List (DataW H), ds.length = fn.params.size → s.fn H ds = { results := [.lit (.bool true)], args := ds })
    (hcalls : ∀ (W : World) (base : Nat) (args : Array Value) (ds : List (DataW H)) (ps : List MemPlace), args.size = fn.params.size →
      (∀ (j : Nat) t v, fn.params[j]? = some t → args[j]? = some v → Value.okWide C.prog W .any base t v) → DataW.TrodAll enc C.prog W 0 (fun _ => true) true fn.params.toList args.toList ds ps → (∀ x ∈ ps, x.block < W.heap.size) →
      Calls C.prog K args W fun e W' => e = .returned (.bool true) ∧ Below W.heap.size W W') :
    ReturnsInHanded {} C os K .any (s.pre6 enc C.prog fn conds false) (s.post enc C.prog fn false true false again) := by
  refine returnsInHanded_of_change own started noInit hfn witness ?_
  intro W base args ds gs before hval hW _ _
  have hW' := hW
  obtain ⟨p, q, hA, hV, hpq, hfz, hnd⟩ := hW
  have hV' : gs = [] ∧ q = [] := by
    rw [hv] at hV
    cases gs with
    | nil => exact ⟨rfl, hV⟩
    | cons g gs => exact hV.elim
  obtain ⟨rfl, rfl⟩ := hV'
  simp only [List.append_nil] at hpq
  subst hpq
  have hlt : ∀ x ∈ before, x.block < W.heap.size := fun x hx => hW'.lt x hx
  obtain ⟨hlen1, hlen2⟩ := trodAll_length _ _ _ _ hA
  have hsz : args.size = fn.params.size := by simpa using hlen1
  refine (hcalls W base args ds before hsz hval hA hlt).mono ?_
  rintro e W' ⟨rfl, hb⟩
  have hs := hspec ds (by simpa using hlen2)
  refine ⟨_, rfl, post_of_below (pa := before) (pv := []) hW' ?_ ?_ ?_ (by simp) hb ?_⟩
  · intro b sp hd
    rw [List.append_nil, hs, hrt]
    exact trodAll_cons_mk (shut_bool hub _) trodAll_mk0
  · intro sp hsp
    rw [List.append_nil, hs]
    refine trodAll_below hl hb _ _ _ _ ?_ hA (fun x hx => ⟨hlt x hx, hsp x hx⟩)
    intro t ht
    have := List.all_eq_true.1 hrd t ht
    simpa using this
  · intro sp hsp
    rw [List.append_nil, hs, hv]
    rfl
  · exact ok_one hrt rfl (okWide_bool_mk hub _)


/-! ### 2. The arguments -/
def shP (T : Tab) (t : TypeId) : Option Sh := match shC T 40 t, aggT T t with
  | some l, some true => some (.agg l)
  | some [s], some false => match s.isAgg with
    | false => some s
    | true => none
  | _, _ => none
def shPs (T : Tab) : List TypeId → Option (List Sh)
  | [] => some []
  | t :: r => match shP T t, shPs T r with
    | some s, some l => some (s :: l)
    | _, _ => none

section
variable {P : Program} {T : Tab} [GoodTab P T] {H : Type} {enc : TypeId × Value → H}
theorem open_shP {W : World} {base : Nat} {t : TypeId} {v : Value} {d : DataW H} {ps : List MemPlace} {sh : Sh} {sp : Nat → Bool} {hd : Bool} (h : shP T t = some sh) (hv : Value.okWide P W .any base t v) (ht : DataW.Trod enc P W 0 sp hd t v d ps) (hlt : ∀ x ∈ ps, x.block < W.heap.size) :
    ∃ d, Wf sh d ∧ DenD (fun k => k < W.heap.size) W sh d v := by
  obtain ⟨fuel, ht⟩ := ht
  unfold shP at h
  split at h
  · rename_i l hl ha
    simp only [Option.some.injEq] at h; subst h
    obtain ⟨ds, hz⟩ := trod_open (P := P) 40 hl ht hlt
    have : ∃ cs, v = .agg cs := by
      unfold aggT at ha
      unfold Value.okWide at hv
      split at ha
      · rename_i fs hu; rw [und_of (P := P) hu] at hv; obtain ⟨cs, h1, _⟩ := hv; exact ⟨cs, h1⟩
      · rename_i n e hu; rw [und_of (P := P) hu] at hv; obtain ⟨cs, h1, _⟩ := hv; exact ⟨cs, h1⟩
      · cases ha
      · cases ha
    obtain ⟨cs, rfl⟩ := this
    refine ⟨.a ds, ?_, ?_⟩
    · simp only [Wf]; exact ⟨ds, rfl, hz.wf⟩
    · simp only [DenD]
      exact ⟨cs.toList, by simp, hz.den⟩
  · rename_i s hl ha
    split at h
    · rename_i hag
      simp only [Option.some.injEq] at h; subst h
      obtain ⟨ds, hz⟩ := trod_open (P := P) 40 hl ht hlt
      simp only [DenZ] at hz
      obtain ⟨d0, ds', v0, vs', rfl, hvs, h1, h2, rfl, rfl⟩ := hz
      have hone : oneV v = true := by
        cases v with
        | agg cs =>
          exfalso
          unfold aggT at ha
          unfold Value.okWide at hv
          cases hu : T.underlying t with
          | none => rw [hu] at ha; cases ha
          | some u =>
            rw [hu] at ha
            rw [und_of (P := P) hu] at hv
            cases u <;> simp only at ha hv <;> (try cases ha) <;> (unfold Cell.okWide at hv; rw [und_of (P := P) hu] at hv; simp only at hv; unfold Cell.ok at hv; rw [und_of (P := P) hu] at hv; simp only at hv)
        | tuple cs =>
          exfalso
          unfold aggT at ha
          unfold Value.okWide at hv
          cases hu : T.underlying t with
          | none => rw [hu] at ha; cases ha
          | some u =>
            rw [hu] at ha
            rw [und_of (P := P) hu] at hv
            cases u <;> simp only at ha hv <;> (try cases ha) <;> (unfold Cell.okWide at hv; rw [und_of (P := P) hu] at hv; simp only at hv; unfold Cell.ok at hv; rw [und_of (P := P) hu] at hv; simp only at hv)
        | _ => rfl
      rw [cells_of_oneV hone] at hvs
      simp at hvs; subst hvs
      exact ⟨d0, h1, h2⟩
    · cases h
  · cases h

theorem open_shPs {W : World} {base : Nat} {sp : Nat → Bool} {hd : Bool} : ∀ {ts : List TypeId} {vs : List Value} {ds : List (DataW H)} {ps : List MemPlace} {shs : List Sh}, shPs T ts = some shs → (∀ (j : Nat) t v, ts[j]? = some t → vs[j]? = some v → Value.okWide P W .any base t v) →
    DataW.TrodAll enc P W 0 sp hd ts vs ds ps → (∀ x ∈ ps, x.block < W.heap.size) → ∃ Ds, DenZ (fun k => k < W.heap.size) W shs Ds vs
  | [], [], [], ps, shs, h, _, _, _ => by
    simp only [shPs, Option.some.injEq] at h; subst h
    exact ⟨[], by simp [DenZ]⟩
  | t :: ts, v :: vs, d :: ds, ps, shs, h, hok, ht, hlt => by
    obtain ⟨p, q, h1, h2, rfl⟩ := ht
    simp only [shPs] at h
    split at h
    · rename_i s l hs hl
      simp only [Option.some.injEq] at h; subst h
      obtain ⟨d1, w1, e1⟩ := open_shP hs (hok 0 t v rfl rfl) h1 (fun x hx => hlt x (by simp [hx]))
      obtain ⟨Ds, hz⟩ := open_shPs hl (fun j t' v' hj hj' => hok (j + 1) t' v' (by simpa using hj) (by simpa using hj')) h2 (fun x hx => hlt x (by simp [hx]))
      refine ⟨d1 :: Ds, ?_⟩
      simp only [DenZ]
      exact ⟨d1, Ds, v, vs, rfl, rfl, w1, e1, hz⟩
    · cases h
  | [], _ :: _, _, _, _, _, _, h, _ => h.elim
  | [], [], _ :: _, _, _, _, _, h, _ => h.elim
  | _ :: _, [], _, _, _, _, _, h, _ => h.elim
  | _ :: _, _ :: _, [], _, _, _, _, h, _ => h.elim
end

/-- A law's row: at all arguments its run comes to true. -/
theorem law_row {H : Type} {enc : TypeId × Value → H} {C : Checked} {T : Tab} [GoodTab C.prog T] {os : Os} {K : FuncId} {fn : Func} {s : ChangeSpec} {conds : List PathCond} {again : Bool} {tb : TypeId} {shs : List Sh}
    (own : ownKnob C.prog.godebug = none) (started : os.Started) (noInit : C.prog.inits.idxOf? K = none) (hfn : C.prog.funcs[K]? = some fn)
    (witness : ∃ (w : World) (tape : Tape) (i : Input), w.os = os ∧ (w.forCall tape i).Shaped C.prog ∧ i.vars = [] ∧ Input.okWide C.prog (w.forCall tape i) .any w.heap.size K i ∧
      s.pre6 enc C.prog fn conds false (w.forCall tape i).memory i.args ∧ ({} : Assume).holds C.prog (lone (Frame.enter C.prog K i.args .normal) [] (w.forCall tape i)))
    (hl : laidOutB C.prog = true) (hrd : fn.params.toList.all (fun t => C.prog.readableRec t && decide (t < C.prog.types.size)) = true)
    (hv : s.vars = []) (hrt : fn.resultTypes = #[tb]) (hub : C.prog.underlying tb = some .bool)
    (hspec : ∀ ds : List (DataW H), ds.length = fn.params.size → s.fn H ds = { results := [.lit (.bool true)], args := ds })
    (hsh : shPs T fn.params.toList = some shs)
    (hcall : ∀ Ds, WfL shs Ds → ∃ r H', CallOK C.prog K (encL shs (.a Ds) 0) [] r H' ∧ r.bool? = some true) :
    ReturnsInHanded {} C os K .any (s.pre6 enc C.prog fn conds false) (s.post enc C.prog fn false true false again) := by
  refine row_of own started noInit hfn witness hl hrd hv hrt hub hspec ?_
  intro W base args ds ps hsz hok ht hlt
  obtain ⟨Ds, hz⟩ := open_shPs (P := C.prog) hsh (fun j t v hj hj' => hok j t v (by simpa using hj) (by simpa using hj')) ht hlt
  obtain ⟨r, H', hc, hr⟩ := hcall Ds hz.wf
  have := hc (fun _ => none) (fun k => k < W.heap.size) W args.toList (rel_empty (fun _ h => h)) (encL_den.2 hz.den)
  have e : args.toList.toArray = args := by simp
  rw [e] at this
  refine this.mono ?_
  rintro e w' ⟨v, ρ', Φ', rfl, hd, _, g⟩
  exact ⟨by rw [bool?_den hr hd], g.old⟩
end Go.Sy
