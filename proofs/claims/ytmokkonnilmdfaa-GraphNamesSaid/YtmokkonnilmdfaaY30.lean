/-
  Maps, turned: made, an entry put in, an entry gone.
  No statement of the seat is proved here. Conditions: none.
-/
import Derived.Test.YtmokkonnilmdfaaY11
set_option linter.unusedSimpArgs false
set_option linter.unusedVariables false
namespace Go.Sy
open Go.RowKit

/-! ### 1. Lists -/
theorem perm_erase {α : Type} {l : List α} {i : Nat} {a : α} (h : l[i]? = some a) : l.Perm (a :: l.eraseIdx i) := by
  induction l generalizing i with
  | nil => simp at h
  | cons b t ih =>
    cases i with
    | zero => simp at h; subst h; simp
    | succ i =>
      simp only [List.eraseIdx_cons_succ]
      exact ((ih (by simpa using h)).cons b).trans (List.Perm.swap a b _)
theorem set_perm {α : Type} {l : List α} {i : Nat} (h : i < l.length) (a : α) : (l.set i a).Perm (a :: l.eraseIdx i) := by
  induction l generalizing i with
  | nil => simp at h
  | cons b t ih =>
    cases i with
    | zero => simp
    | succ i =>
      simp only [List.set_cons_succ, List.eraseIdx_cons_succ]
      exact ((ih (by simpa using h)).cons b).trans (List.Perm.swap a b _)
section
variable {P : Program} {T : Tab} [GoodTab P T] {ρ : Names} {Φ : Nat → Prop} {w w' : World} {H : Hp}
theorem EntsP.get {k v : Sh} : ∀ {es : List D} {l : List MapEntry} {i : Nat} {x : MapEntry}, EntsP Φ w k v es l → l[i]? = some x → ∃ d, es[i]? = some d ∧ EntP Φ w k v d x
  | [], l, i, x, h, hx => by simp only [EntsP] at h; subst h; simp at hx
  | d :: r, l, 0, x, ⟨y, t, h1, h2, h3⟩, hx => by subst h1; simp at hx; subst hx; exact ⟨d, rfl, h2⟩
  | d :: r, l, i + 1, x, ⟨y, t, h1, h2, h3⟩, hx => by subst h1; simpa using EntsP.get h3 (by simpa using hx)
theorem EntsP.set {k v : Sh} {d' : D} {x' : MapEntry} (h' : EntP Φ w k v d' x') : ∀ {es : List D} {l : List MapEntry} (i : Nat), EntsP Φ w k v es l → EntsP Φ w k v (es.set i d') (l.set i x')
  | [], l, i, h => by simp only [EntsP] at h; subst h; simp [EntsP]
  | d :: r, l, 0, ⟨y, t, h1, h2, h3⟩ => by subst h1; exact ⟨x', t, rfl, h', h3⟩
  | d :: r, l, i + 1, ⟨y, t, h1, h2, h3⟩ => by subst h1; exact ⟨y, t.set i x', rfl, h2, EntsP.set h' i h3⟩
theorem EntsP.snoc {k v : Sh} {d' : D} {x' : MapEntry} (h' : EntP Φ w k v d' x') : ∀ {es : List D} {l : List MapEntry}, EntsP Φ w k v es l → EntsP Φ w k v (es ++ [d']) (l ++ [x'])
  | [], l, h => by simp only [EntsP] at h; subst h; exact ⟨x', [], rfl, h', rfl⟩
  | d :: r, l, ⟨y, t, h1, h2, h3⟩ => by subst h1; exact ⟨y, t ++ [x'], rfl, h2, EntsP.snoc h' h3⟩
theorem EntsP.erase {k v : Sh} : ∀ {es : List D} {l : List MapEntry} (i : Nat), EntsP Φ w k v es l → EntsP Φ w k v (es.eraseIdx i) (l.eraseIdx i)
  | [], l, i, h => by simp only [EntsP] at h; subst h; simp [EntsP]
  | d :: r, l, 0, ⟨y, t, h1, h2, h3⟩ => by subst h1; exact h3
  | d :: r, l, i + 1, ⟨y, t, h1, h2, h3⟩ => by subst h1; exact ⟨y, t.eraseIdx i, rfl, h2, EntsP.erase i h3⟩
theorem apart_cons {k : Sh} {d e : D} {R : List D} (h : Apart k (d :: R)) (hk : keyB k (d.at 0) (e.at 0) = true) : Apart k (e :: R) := by
  obtain ⟨h1, h2⟩ := List.pairwise_cons.1 h
  refine List.pairwise_cons.2 ⟨fun b hb => ?_, h2⟩
  cases hq : keyB k (e.at 0) (b.at 0) with
  | false => rfl
  | true => rw [← h1 b hb]; exact (keyB_trans (keyB_symm hk) hq).symm ▸ rfl

/-- An entry put in. -/
theorem MapOK.put {k v : Sh} {es : List D} {ents : List MapEntry} {clock : Nat} (hk : k.keyish = true) (h : MapOK Φ w k v es ents clock) {kd vd : D} {key val : Value} (hkd : DenD Φ w k kd key) (hvd : DenD Φ w v vd val)
    {es' : List D} (hp : es'.Perm es) (he : EntsP Φ w k v es' ents) :
    (findE (fun e => keyB k kd (e.at 0)) es' ents 0 = none → MapOK Φ w k v (setK k es kd vd) (ents ++ [{ key := key, val := val, born := clock }]) (clock + 1)) ∧
    (∀ j x, findE (fun e => keyB k kd (e.at 0)) es' ents 0 = some (j, x) → ∃ e, ents[j]? = some e ∧ e.key = key ∧ MapOK Φ w k v (setK k es kd vd) (ents.set j { e with key := key, val := val }) clock) := by
  obtain ⟨h1, h2, h3, _⟩ := h
  have hat : ∀ a b : D, (D.a [a, b]).at 0 = a ∧ (D.a [a, b]).at 1 = b := fun a b => ⟨rfl, rfl⟩
  rcases findE_spec (p := fun e => keyB k kd (e.at 0)) 0 he with ⟨q1, q2⟩ | ⟨j0, d0, x0, q1, q2, q3, q4, q5⟩
  · refine ⟨fun _ => ?_, fun j x hjx => by rw [q1] at hjx; cases hjx⟩
    have hh : hasK k es kd = false := by rw [← hasK_perm hp]; exact q2
    have hs : setK k es kd vd = es ++ [.a [kd, vd]] := by unfold setK; rw [hh]; rfl
    rw [hs]
    refine ⟨?_, ?_, ?_, es' ++ [.a [kd, vd]], hp.append_right _, he.snoc ⟨by rw [(hat kd vd).1]; exact hkd, by rw [(hat kd vd).2]; exact hvd⟩⟩
    · rw [List.map_append, List.nodup_append]
      refine ⟨h1, by simp, ?_⟩
      intro a ha b hb
      simp only [List.map_cons, List.map_nil, List.mem_singleton] at hb
      obtain ⟨x, hx, rfl⟩ := List.mem_map.1 ha
      have := h2 x hx
      omega
    · intro x hx
      rcases List.mem_append.1 hx with hx | hx
      · have := h2 x hx; omega
      · rw [List.mem_singleton.1 hx]; exact Nat.lt_succ_self _
    · unfold Apart
      rw [List.pairwise_append]
      refine ⟨h3, List.pairwise_singleton _ _, ?_⟩
      intro a ha b hb
      rw [List.mem_singleton.1 hb, (hat kd vd).1, keyB_comm]
      have := List.any_eq_false.1 hh a ha
      simpa using this
  · refine ⟨(fun hn => by rw [q5] at hn; cases hn), fun j x hjx => ?_⟩
    rw [q5, Nat.zero_add] at hjx
    simp only [Option.some.injEq, Prod.mk.injEq] at hjx
    obtain ⟨rfl, rfl⟩ := hjx
    have hm : d0 ∈ es := hp.mem_iff.1 (List.mem_of_getElem? q1)
    have hh : hasK k es kd = true := List.any_eq_true.2 ⟨d0, hm, q3⟩
    have hi : (es.findIdx fun (e : D) => keyB k kd (e.at 0)) < es.length := List.findIdx_lt_length.2 ⟨d0, hm, q3⟩
    have e2 : keyB k kd ((es[es.findIdx fun (e : D) => keyB k kd (e.at 0)]).at 0) = true := List.findIdx_getElem (p := fun (e : D) => keyB k kd (e.at 0))
    have e3 := apart_eq h3 (List.getElem_mem hi) hm (keyB_trans e2 q3)
    have hs : setK k es kd vd = es.set (es.findIdx fun (e : D) => keyB k kd (e.at 0)) (.a [kd, vd]) := by unfold setK; rw [hh]; rfl
    have p1 := perm_erase q1
    have p2 := perm_erase (l := es) (i := es.findIdx fun (e : D) => keyB k kd (e.at 0)) (a := d0) (by rw [List.getElem?_eq_getElem hi, e3])
    have pR : (es'.eraseIdx j0).Perm (es.eraseIdx (es.findIdx fun (e : D) => keyB k kd (e.at 0))) := List.Perm.cons_inv (p1.symm.trans (hp.trans p2))
    have hj : j0 < es'.length := (List.getElem?_eq_some_iff.1 q1).1
    refine ⟨x0, q2, (keyB_den hk hkd q4.1 q3).symm, ?_⟩
    rw [hs]
    refine ⟨?_, ?_, ?_, es'.set j0 (.a [kd, vd]), ?_, he.set ⟨by rw [(hat kd vd).1]; exact hkd, by rw [(hat kd vd).2]; exact hvd⟩ j0⟩
    · have : (ents.set j0 { x0 with key := key, val := val }).map (·.born) = ents.map (·.born) := by
        rw [List.map_set]
        obtain ⟨hjl, hx0⟩ := List.getElem?_eq_some_iff.1 q2
        have : (ents.map (·.born))[j0]'(by simpa using hjl) = x0.born := by simp [hx0]
        simp only
        rw [← this, List.set_getElem_self]
      rw [this]; exact h1
    · intro x hx
      rcases List.mem_or_eq_of_mem_set hx with hx | hx
      · exact h2 x hx
      · rw [hx]; exact h2 x0 (List.mem_of_getElem? q2)
    · exact apart_perm (set_perm hi _) (apart_cons (apart_perm p2.symm h3) (by rw [(hat kd vd).1]; exact keyB_symm q3))
    · exact (set_perm hj _).trans ((pR.cons _).trans (set_perm hi _).symm)
/-- An entry gone. -/
theorem MapOK.del {k v : Sh} {es : List D} {ents : List MapEntry} {clock : Nat} (h : MapOK Φ w k v es ents clock) {kd : D}
    {es' : List D} (hp : es'.Perm es) (he : EntsP Φ w k v es' ents) :
    (findE (fun e => keyB k kd (e.at 0)) es' ents 0 = none → MapOK Φ w k v (delK k es kd) ents clock) ∧
    (∀ j x, findE (fun e => keyB k kd (e.at 0)) es' ents 0 = some (j, x) → MapOK Φ w k v (delK k es kd) (ents.eraseIdx j) clock) := by
  obtain ⟨h1, h2, h3, _⟩ := h
  rcases findE_spec (p := fun e => keyB k kd (e.at 0)) 0 he with ⟨q1, q2⟩ | ⟨j0, d0, x0, q1, q2, q3, q4, q5⟩
  · refine ⟨fun _ => ?_, fun j x hjx => by rw [q1] at hjx; cases hjx⟩
    have hs : delK k es kd = es := by
      unfold delK
      rw [List.filter_eq_self]
      intro a ha
      have := List.any_eq_false.1 q2 a (hp.mem_iff.2 ha)
      simpa using this
    rw [hs]
    exact ⟨h1, h2, h3, es', hp, he⟩
  · refine ⟨(fun hn => by rw [q5] at hn; cases hn), fun j x hjx => ?_⟩
    rw [q5, Nat.zero_add] at hjx
    simp only [Option.some.injEq, Prod.mk.injEq] at hjx
    obtain ⟨rfl, rfl⟩ := hjx
    have p1 := perm_erase q1
    have pes : es.Perm (d0 :: es'.eraseIdx j0) := hp.symm.trans p1
    have ha := apart_perm pes.symm h3
    obtain ⟨a1, a2⟩ := List.pairwise_cons.1 ha
    have hd : (delK k es kd).Perm (es'.eraseIdx j0) := by
      unfold delK
      refine (pes.filter _).trans ?_
      rw [List.filter_cons]
      simp only [q3, Bool.not_true, Bool.false_eq_true, if_false]
      rw [List.filter_eq_self.2]
      intro b hb
      cases hq : keyB k kd (b.at 0) with
      | false => rfl
      | true => have := a1 b hb; rw [keyB_trans q3 hq] at this; cases this
    refine ⟨?_, fun x hx => h2 x (List.mem_of_mem_eraseIdx hx), apart_perm hd a2, es'.eraseIdx j0, hd.symm, he.erase j0⟩
    exact h1.sublist ((List.eraseIdx_sublist ents j0).map _)

/-! ### 2. The operations -/
theorem setObj_map {g : Nat} {es : Array MapEntry} {c : Nat} (hg : w.heap[g]? = some (.map es c)) (o : Obj) : (setObj g o).run P w = .ok () (putBlk w g o) := by
  simp [setObj, Sem.run, hg, putBlk]
theorem modify_set {α : Type} {l : List α} {i : Nat} {a : α} (h : l[i]? = some a) (f : α → α) : l.toArray.modify i f = (l.set i (f a)).toArray := by
  apply Array.ext_getElem?
  intro j
  rw [Array.getElem?_modify]
  simp only [List.getElem?_toArray, List.getElem?_set]
  have hl := (List.getElem?_eq_some_iff.1 h).1
  have he : l[i] = a := (List.getElem?_eq_some_iff.1 h).2
  by_cases hj : i = j
  · subst hj; simp [hl, he]
  · simp [hj]
theorem mapSetE_run (hrel : Rel ρ H Φ w) {t : TypeId} {x i y : SV} {H' : Hp} {u iu yu : Value} (hx : Den ρ Φ w x u) (hi : Den ρ Φ w i iu) (hy : Den ρ Φ w y yu) (h : (mapSetE T H t x i y).run = some H') :
    ∃ w' Φ', (Instr.mapUpdate t u iu yu).run P w = .ok () w' ∧ Rel ρ H' Φ' w' ∧ Grow ρ Φ w ρ Φ' w' := by
  unfold mapSetE at h
  split at h
  · rename_i r hr
    obtain ⟨hu, hk, heq, hck, ti, zv, hti, hz, hzd⟩ := (inferInstance : GoodTab P T).mp t r hr
    split at h
    · rename_i kd vd H1 hfz hfv
      obtain ⟨Φ1, hrel1, hgrow1, hvd, hlen1, hnew1⟩ := freeze_run (ρ := ρ) (w := w) r.v y H vd H1 hfv Φ hrel yu hy
      have hkey : DenD Φ1 w r.k kd iu := DenD.mono hgrow1.ext hgrow1.phi (freezeK hk hfz hi)
      obtain ⟨d, hd⟩ := chkKey_und (hck kd)
      have hchk : ∀ em, (Instr.checkKey em 10000 r.kt iu).run P w = .ok () w := fun em => chkKey_run (P := P) (T := T) (ρ := ρ) (Φ := Φ1) (w := w) 20 r.kt _ iu 10000 em w (hck kd) (by omega) (enc_den.2 hkey)
      split at h
      · rename_i b
        split at h
        · rename_i k' v' es ty hb
          split at h
          · rename_i hsh
            simp only [Bool.and_eq_true] at hsh
            have e1 := Sh.beq_eq hsh.1
            have e2 := Sh.beq_eq hsh.2
            subst e1; subst e2
            simp only [Tree.run, Option.some.injEq] at h; subst h
            obtain ⟨m, hm, hok⟩ := hrel1.own _ _ hb
            simp only [Den] at hx
            simp only [BlkOK] at hok
            obtain ⟨g, ents, clock, rfl, hg, hmok⟩ := hok
            obtain ⟨g', hg', rfl⟩ := hx
            rw [hm] at hg'; simp only [Option.some.injEq, Nm.blk.injEq] at hg'; subst hg'
            have hnphi : ¬ Φ1 g := hrel1.apart b _ _ g hb hm rfl rfl
            obtain ⟨m1, m2, m3, es', h4, h5⟩ := id hmok
            have hfk := findKey_run (P := P) hd heq hkey w h5
            have hput := hmok.put hk hkey hvd h4 h5
            have fin : ∀ (ents' : List MapEntry) (clock' : Nat), (Instr.mapUpdate t (.map (some g)) iu yu).run P w = .ok () (putBlk w g (.map ents'.toArray clock')) → MapOK Φ1 w r.k r.v (setK r.k es kd vd) ents' clock' →
                ∃ w' Φ', (Instr.mapUpdate t (.map (some g)) iu yu).run P w = .ok () w' ∧ Rel ρ (H1.set b (some ⟨.mapc r.k r.v (setK r.k es kd vd), ty, false⟩)) Φ' w' ∧ Grow ρ Φ w ρ Φ' w' := by
              intro ents' clock' hrun hmap
              have hext := putBlk_ext (w := w) hnphi (.map ents'.toArray clock')
              have hgs : g < w.heap.size := (Array.getElem?_eq_some_iff.1 hg).1
              refine ⟨_, Φ1, hrun, hrel1.turn (b' := ⟨.mapc r.k r.v (setK r.k es kd vd), ty, false⟩) hb rfl rfl hm hext (fun q hq => putBlk_other (fun e => hq (by rw [e]; rfl)) _) ?_, hgrow1.trans (Grow.world hext (fun q hq hn => putBlk_other (fun e => hn ⟨b, .blk g, hm, by rw [e]; rfl⟩) _))⟩
              simp only [BlkOK]
              exact ⟨g, ents', clock', rfl, putBlk_get hgs _, hmap.mono (fun s d v hd => DenD.mono hext (fun _ h => h) hd)⟩
            cases hfe : findE (fun e => keyB r.k kd (e.at 0)) es' ents 0 with
            | none =>
              rw [hfe] at hfk
              refine fin (ents ++ [{ key := iu, val := yu, born := clock }]) (clock + 1) ?_ (hput.1 hfe)
              simp only [Instr.mapUpdate, Sem.run_bind, run_underlying' (P := P) hu, Result.andThen_ok, getObj, Sem.run, hg, hchk]
              simp only [hfk, Result.andThen_ok, setObj_map (P := P) hg]
              simp
            | some p =>
              obtain ⟨j, xv⟩ := p
              rw [hfe] at hfk
              obtain ⟨e, he1, he2, he3⟩ := hput.2 j xv hfe
              refine fin (ents.set j { e with key := iu, val := yu }) clock ?_ he3
              simp only [Instr.mapUpdate, Sem.run_bind, run_underlying' (P := P) hu, Result.andThen_ok, getObj, Sem.run, hg, hchk]
              simp only [hfk, Sem.run_bind, Result.andThen_ok]
              have hkeep : (Instr.keyThatStays (((ents.toArray[j]?).map (·.key)).getD iu) iu).run P w = .ok iu w := by
                simp only [List.getElem?_toArray, he1, Option.map_some, Option.getD_some, he2, Instr.keyThatStays]
                rw [if_pos (same_key hk hkey 9999)]
                rfl
              simp only [hkeep, Sem.run_bind, Result.andThen_ok, setObj_map (P := P) hg]
              rw [modify_set he1]
          · simp [Tree.run] at h
        · simp [Tree.run] at h
      · simp [Tree.run] at h
    · simp [Tree.run] at h
  · simp [Tree.run] at h
theorem mapDelE_run (hrel : Rel ρ H Φ w) {t t' ty : TypeId} {ts : Array TypeId} {x i : SV} {H' : Hp} {u iu : Value} (hts : ts[0]? = some t) (hx : Den ρ Φ w x u) (hi : Den ρ Φ w i iu) (h : (mapDelE T H t x i).run = some H') :
    ∃ w', (Builtin.delete_ ts ty #[u, iu]).run P w = .ok (.tuple #[]) w' ∧ Rel ρ H' Φ w' ∧ Grow ρ Φ w ρ Φ w' := by
  unfold mapDelE at h
  split at h
  · rename_i r hr
    obtain ⟨hu, hk, heq, hck, ti, zv, hti, hz, hzd⟩ := (inferInstance : GoodTab P T).mp t r hr
    split at h
    · rename_i kd hfz
      have hkey : DenD Φ w r.k kd iu := freezeK hk hfz hi
      obtain ⟨d, hd⟩ := chkKey_und (hck kd)
      have hchk : ∀ em, (Instr.checkKey em 10000 r.kt iu).run P w = .ok () w := fun em => chkKey_run (P := P) (T := T) (ρ := ρ) (Φ := Φ) (w := w) 20 r.kt _ iu 10000 em w (hck kd) (by omega) (enc_den.2 hkey)
      split at h
      · rename_i b
        split at h
        · rename_i k' v' es ty' hb
          split at h
          · rename_i hsh
            simp only [Bool.and_eq_true] at hsh
            have e1 := Sh.beq_eq hsh.1
            have e2 := Sh.beq_eq hsh.2
            subst e1; subst e2
            simp only [Tree.run, Option.some.injEq] at h; subst h
            obtain ⟨m, hm, hok⟩ := hrel.own _ _ hb
            simp only [Den] at hx
            simp only [BlkOK] at hok
            obtain ⟨g, ents, clock, rfl, hg, hmok⟩ := hok
            obtain ⟨g', hg', rfl⟩ := hx
            rw [hm] at hg'; simp only [Option.some.injEq, Nm.blk.injEq] at hg'; subst hg'
            have hnphi : ¬ Φ g := hrel.apart b _ _ g hb hm rfl rfl
            obtain ⟨m1, m2, m3, es', h4, h5⟩ := id hmok
            have hfk := findKey_run (P := P) hd heq hkey w h5
            have hdel := hmok.del (kd := kd) h4 h5
            have fin : ∀ (ents' : List MapEntry), (Builtin.delete_ ts ty #[.map (some g), iu]).run P w = .ok (.tuple #[]) (putBlk w g (.map ents'.toArray clock)) → MapOK Φ w r.k r.v (delK r.k es kd) ents' clock →
                ∃ w', (Builtin.delete_ ts ty #[.map (some g), iu]).run P w = .ok (.tuple #[]) w' ∧ Rel ρ (H.set b (some ⟨.mapc r.k r.v (delK r.k es kd), ty', false⟩)) Φ w' ∧ Grow ρ Φ w ρ Φ w' := by
              intro ents' hrun hmap
              have hext := putBlk_ext (w := w) hnphi (.map ents'.toArray clock)
              have hgs : g < w.heap.size := (Array.getElem?_eq_some_iff.1 hg).1
              refine ⟨_, hrun, hrel.turn (b' := ⟨.mapc r.k r.v (delK r.k es kd), ty', false⟩) hb rfl rfl hm hext (fun q hq => putBlk_other (fun e => hq (by rw [e]; rfl)) _) ?_, (Grow.world hext (fun q hq hn => putBlk_other (fun e => hn ⟨b, .blk g, hm, by rw [e]; rfl⟩) _))⟩
              simp only [BlkOK]
              exact ⟨g, ents', clock, rfl, putBlk_get hgs _, hmap.mono (fun s d v hd => DenD.mono hext (fun _ h => h) hd)⟩
            cases hfe : findE (fun e => keyB r.k kd (e.at 0)) es' ents 0 with
            | none =>
              rw [hfe] at hfk
              refine fin ents ?_ (hdel.1 hfe)
              simp only [Builtin.delete_, hts, List.getElem?_toArray, List.getElem?_cons_zero, List.getElem?_cons_succ, Sem.run_bind, run_underlying' (P := P) hu, Result.andThen_ok, getObj, Sem.run, hg, hchk]
              simp only [hfk, Sem.run_bind, Result.andThen_ok, setObj_map (P := P) hg, Sem.run_pure]
            | some p =>
              obtain ⟨j, xv⟩ := p
              rw [hfe] at hfk
              refine fin (ents.eraseIdx j) ?_ (hdel.2 j xv hfe)
              simp only [Builtin.delete_, hts, List.getElem?_toArray, List.getElem?_cons_zero, List.getElem?_cons_succ, Sem.run_bind, run_underlying' (P := P) hu, Result.andThen_ok, getObj, Sem.run, hg, hchk]
              simp only [hfk, Sem.run_bind, Result.andThen_ok, setObj_map (P := P) hg, Sem.run_pure]
              simp
          · simp [Tree.run] at h
        · simp [Tree.run] at h
      · simp [Tree.run] at h
    · simp [Tree.run] at h
  · simp [Tree.run] at h
theorem makeMap_run (hrel : Rel ρ H Φ w) (k v : Sh) (t : TypeId) : (Instr.makeMap t none).run P w = .ok (.map (some w.heap.size)) (w.alloc (.map #[] 0)) ∧
    Rel (named ρ H.length (.blk w.heap.size)) (H ++ [some ⟨.mapc k v [], t, false⟩]) Φ (w.alloc (.map #[] 0)) ∧ Grow ρ Φ w (named ρ H.length (.blk w.heap.size)) Φ (w.alloc (.map #[] 0)) := by
  refine ⟨by simp [Instr.makeMap, newObj, Sem.run] <;> rfl, ?_⟩
  refine hrel.alloc rfl (fun q hq => by simp only [Nm.block, Option.some.injEq] at hq; exact hq.symm) ?_
  simp only [BlkOK]
  exact ⟨_, [], 0, rfl, (by show (w.heap.push _)[w.heap.size]? = _; simp), List.nodup_nil, by simp, List.Pairwise.nil, [], List.Perm.refl _, rfl⟩
end
end Go.Sy
