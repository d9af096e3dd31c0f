/-
  Arguments laid open, of whatever shape ('open_all'); from a call's run to a law's row ('law_row').
  No statement of the seat is proved here. Conditions: none.
-/
import Derived.Test.YtmokkonnilmdfaaY22
import Derived.ProofKit
import Derived.OpenShut
set_option linter.unusedSimpArgs false
set_option linter.unusedVariables false
namespace Go.Sy
open Go.RowKit Go.WideShapes Go.ChangeShapes

/-! ### 1. Well formed data -/
mutual
def Wf : Sh → D → Prop
  | .int k, d => ∃ n, d = .i n ∧ k.min ≤ n ∧ n ≤ k.max
  | .bool, d => ∃ b, d = .b b
  | .str, d => ∃ l, d = .s l ∧ l.length ≤ maxLen
  | .agg cs, d => ∃ ds, d = .a ds ∧ WfL cs ds
  | .list e, d => ∃ nl xs, d = .l nl xs ∧ (nl = true → xs = []) ∧ xs.length ≤ maxLen ∧ ∀ x ∈ xs, Wf e x
def WfL : List Sh → List D → Prop
  | [], ds => ds = []
  | c :: r, ds => ∃ d rest, ds = d :: rest ∧ Wf c d ∧ WfL r rest
end
/-- Data, shapes and values, one behind the other. -/
def DenZ (Φ : Nat → Prop) (w : World) : List Sh → List D → List Value → Prop
  | [], ds, vs => ds = [] ∧ vs = []
  | c :: r, ds, vs => ∃ d ds' v vs', ds = d :: ds' ∧ vs = v :: vs' ∧ Wf c d ∧ DenD Φ w c d v ∧ DenZ Φ w r ds' vs'

theorem DenZ.wf {Φ : Nat → Prop} {w : World} : ∀ {cs : List Sh} {ds : List D} {vs : List Value}, DenZ Φ w cs ds vs → WfL cs ds
  | [], ds, vs, h => by simp only [DenZ] at h; simp [WfL, h.1]
  | c :: r, ds, vs, h => by
    simp only [DenZ] at h
    obtain ⟨d, ds', v, vs', rfl, rfl, h1, h2, h3⟩ := h
    simp only [WfL]; exact ⟨d, ds', rfl, h1, h3.wf⟩
theorem DenZ.len {Φ : Nat → Prop} {w : World} : ∀ {cs : List Sh} {ds : List D} {vs : List Value}, DenZ Φ w cs ds vs → ds.length = cs.length ∧ vs.length = cs.length
  | [], ds, vs, h => by simp only [DenZ] at h; simp [h.1, h.2]
  | c :: r, ds, vs, h => by
    simp only [DenZ] at h
    obtain ⟨d, ds', v, vs', rfl, rfl, h1, h2, h3⟩ := h
    have := h3.len; simp [this.1, this.2]
theorem DenZ.dens {Φ : Nat → Prop} {w : World} : ∀ {cs : List Sh} {ds : List D} {vs : List Value} (d : D) (j : Nat), DenZ Φ w cs ds vs → (∀ i, i < ds.length → d.at (j + i) = ds.getD i default) → DenDs Φ w cs d j vs
  | [], ds, vs, d, j, h, _ => by simp only [DenZ] at h; simp [DenDs, h.2]
  | c :: r, ds, vs, d, j, h, hd => by
    simp only [DenZ] at h
    obtain ⟨d0, ds', v, vs', rfl, rfl, h1, h2, h3⟩ := h
    simp only [DenDs]
    refine ⟨v, vs', rfl, ?_, h3.dens d (j + 1) (fun i hi => ?_)⟩
    · have := hd 0 (by simp); simp at this; rw [this]; exact h2
    · have := hd (i + 1) (by simp; omega)
      rw [Nat.add_assoc, Nat.add_comm 1 i, this]; simp
theorem DenZ.den {Φ : Nat → Prop} {w : World} {cs : List Sh} {ds : List D} {vs : List Value} (h : DenZ Φ w cs ds vs) : DenDs Φ w cs (.a ds) 0 vs :=
  h.dens (.a ds) 0 (fun i hi => by simp [D.at])
theorem DenZ.append {Φ : Nat → Prop} {w : World} : ∀ {cs cs' : List Sh} {ds ds' : List D} {vs vs' : List Value}, DenZ Φ w cs ds vs → DenZ Φ w cs' ds' vs' → DenZ Φ w (cs ++ cs') (ds ++ ds') (vs ++ vs')
  | [], cs', ds, ds', vs, vs', h, h' => by simp only [DenZ] at h; obtain ⟨rfl, rfl⟩ := h; simpa using h'
  | c :: r, cs', ds, ds', vs, vs', h, h' => by
    simp only [DenZ] at h
    obtain ⟨d, ds1, v, vs1, rfl, rfl, h1, h2, h3⟩ := h
    simp only [List.cons_append, DenZ]
    exact ⟨d, _, v, _, rfl, rfl, h1, h2, h3.append h'⟩

/-! ### 2. The cells of a type -/
def shC (T : Tab) : Nat → TypeId → Option (List Sh)
  | 0, _ => none
  | d + 1, t => match T.underlying t, sizeT T t with
    | some (.int k), some 1 => some [.int k]
    | some .bool, some 1 => some [.bool]
    | some .string, some 1 => some [.str]
    | some (.slice e), some 1 => match shC T d e, aggT T e with
      | some (s :: r), some true => some [.list (.agg (s :: r))]
      | some [s], some false => match s.isAgg with
        | false => some [.list s]
        | true => none
      | _, _ => none
    | some (.struct fs), some n => match fields T (shC T d) 0 fs.toList with
      | some l => match Nat.beq l.length n with
        | true => some l
        | false => none
      | none => none
    | some (.array k e), some n => match shC T d e with
      | some s => match Nat.beq (k * s.length) n with
        | true => some (List.replicate k s).flatten
        | false => none
      | none => none
    | _, _ => none
where
  fields (T : Tab) (rec : TypeId → Option (List Sh)) : Nat → List Field → Option (List Sh)
    | _, [] => some []
    | off, f :: r => match Nat.beq f.offset off, rec f.type with
      | true, some s => match fields T rec (off + s.length) r with
        | some l => some (s ++ l)
        | none => none
      | _, _ => none

section
variable {P : Program} {T : Tab} [GoodTab P T] {H : Type} {enc : TypeId × Value → H} {w : World} {sp : Nat → Bool} {hd : Bool}

theorem size_cells {t : TypeId} {n : Nat} (h : sizeT T t = some n) : P.cellsOf t = n := by
  obtain ⟨i, hi, hs⟩ := info_of (P := P) h
  unfold Program.cellsOf
  rw [hi]; simpa using hs

theorem shC_size : ∀ (n : Nat) {t : TypeId} {l : List Sh}, shC T n t = some l → sizeT T t = some l.length
  | 0, t, l, h => by simp [shC] at h
  | n + 1, t, l, h => by
    simp only [shC] at h
    split at h <;> try (cases h; done)
    all_goals (rename_i hu hs)
    · simp only [Option.some.injEq] at h; subst h; exact hs
    · simp only [Option.some.injEq] at h; subst h; exact hs
    · simp only [Option.some.injEq] at h; subst h; exact hs
    · split at h <;> try (cases h; done)
      · simp only [Option.some.injEq] at h; subst h; exact hs
      · split at h
        · simp only [Option.some.injEq] at h; subst h; exact hs
        · cases h
    · split at h
      · split at h
        · rename_i hb
          simp only [Option.some.injEq] at h; subst h
          simp only [Nat.beq_eq] at hb; rw [hs, hb]
        · cases h
      · cases h
    · split at h
      · split at h
        · rename_i hb
          simp only [Option.some.injEq] at h; subst h
          simp only [Nat.beq_eq] at hb
          rw [hs, ← hb]; simp
        · cases h
      · cases h

theorem wf_int_iff {k : IntKind} {n : Int} : (Lit.int k n).wf = true ↔ k.min ≤ n ∧ n ≤ k.max := by
  simp [Lit.wf]

theorem trod_open (n : Nat) : ∀ {t : TypeId} {l : List Sh}, shC T n t = some l → ∀ {fuel : Nat} {cs : List Value} {x : DataW H × List MemPlace}, DataW.trod enc P w 0 sp hd fuel t cs = some x → (∀ p ∈ x.2, p.block < w.heap.size) →
    ∃ ds, DenZ (fun k => k < w.heap.size) w l ds cs := by
  induction n with
  | zero => intro t l h; simp [shC] at h
  | succ n ih =>
    intro t l h fuel cs x hx hp
    simp only [shC] at h
    split at h <;> try (cases h; done)
    · -- an integer
      rename_i k hu hs
      simp only [Option.some.injEq] at h; subst h
      have hu' := und_of (P := P) hu
      cases fuel with
      | zero => simp [DataW.trod] at hx
      | succ m =>
        unfold DataW.trod at hx
        rw [hu'] at hx
        split at hx <;> try (simp_all; done)
        rename_i k' k2 m' hk'
        split at hx
        · rename_i hc
          obtain ⟨rfl, hw⟩ := hc
          simp_all
          refine ⟨[.i m'], ?_⟩
          simp only [DenZ, Wf, DenD]
          exact ⟨_, _, _, _, rfl, rfl, ⟨_, rfl, by simpa [Lit.wf] using hw⟩, rfl, rfl, rfl⟩
        · cases hx
    · rename_i hu hs
      simp only [Option.some.injEq] at h; subst h
      have hu' := und_of (P := P) hu
      cases fuel with
      | zero => simp [DataW.trod] at hx
      | succ m =>
        unfold DataW.trod at hx
        rw [hu'] at hx
        split at hx <;> try (simp_all; done)
        rename_i b hk'
        refine ⟨[.b b], ?_⟩
        simp only [DenZ, Wf, DenD]
        exact ⟨_, _, _, _, rfl, rfl, ⟨_, rfl⟩, rfl, rfl, rfl⟩
    · rename_i hu hs
      simp only [Option.some.injEq] at h; subst h
      have hu' := und_of (P := P) hu
      cases fuel with
      | zero => simp [DataW.trod] at hx
      | succ m =>
        unfold DataW.trod at hx
        rw [hu'] at hx
        split at hx <;> try (simp_all; done)
        rename_i s hk'
        split at hx
        · rename_i hc
          refine ⟨[.s s.data.toList], ?_⟩
          simp only [DenZ, Wf, DenD, D.str]
          exact ⟨_, _, _, _, rfl, rfl, ⟨_, rfl, by simpa using hc⟩, by simp, rfl, rfl⟩
        · cases hx
    · -- a slice
      rename_i e hu hs
      have hu' := und_of (P := P) hu
      have key : ∀ (ls : List Sh) (ag : Bool) (el : Sh), shC T n e = some ls → 0 < ls.length → el.isAgg = ag → el.size = ls.length → (∀ row ds, DenZ (fun k => k < w.heap.size) w ls ds row → ∃ d, Wf el d ∧ DenD (fun k => k < w.heap.size) w el d (packV el.isAgg row)) →
          ∃ ds, DenZ (fun k => k < w.heap.size) w [.list el] ds cs := by
        intro ls ag el hls hpos hag hsz hrow
        have hcell : P.cellsOf e = ls.length := size_cells (shC_size n hls)
        rcases DataW.trod_slice hu' hx with ⟨rfl, rfl⟩ | ⟨a, len, cap, elems, rest, m, rfl, rfl, rfl, _, hlc, hcm, hel, hget, _, _⟩
        · refine ⟨[.l true []], ?_⟩
          simp only [DenZ, Wf]
          refine ⟨_, _, _, _, rfl, rfl, ⟨_, _, rfl, by simp, by simp, by simp⟩, ?_, rfl, rfl⟩
          simp only [DenD, D.nl, D.xs]
          exact ⟨none, 0, rfl, Nat.le_refl _, by decide, by simp, by simp, by simp⟩
        · -- its rows
          simp only at hp
          have rows : ∀ i, i < len → ∃ row ds, row.length = ls.length ∧ (∀ j u, row[j]? = some u → w.cell? (a.add (i * ls.length + j)) = some u) ∧ DenZ (fun k => k < w.heap.size) w ls ds row := by
            intro i hi
            have h1 := hget i hi
            have hil : i < elems.length := by omega
            rw [List.getElem?_eq_getElem hil] at h1
            cases hc : w.cells? 0 (a.add (i * P.cellsOf e)) (P.cellsOf e) with
            | none => rw [hc] at h1; simp at h1
            | some row =>
              rw [hc] at h1
              simp only [Option.bind_some] at h1
              obtain ⟨ds, hds⟩ := ih hls h1 (fun p hpp => hp p (by
                simp only [List.mem_append, List.mem_flatMap]
                exact .inr ⟨elems[i], .inl (List.getElem_mem hil), hpp⟩))
              refine ⟨row, ds, ?_, ?_, hds⟩
              · have := hds.len; rw [this.2]
              · intro j u hj
                unfold World.cells? at hc
                rw [if_pos (Nat.zero_le _), hcell] at hc
                have hjl : j < ls.length := by
                  have := hds.len; have := (List.getElem?_eq_some_iff.1 hj).1; omega
                have := mapM_some_get hc j j (by simp [hjl])
                rw [hj] at this
                rw [← this]
                congr 1
                unfold Addr.add
                split <;> split <;> (try split) <;> simp_all <;> omega
          -- put together
          have all : ∀ k, k ≤ len → ∃ (xs : List D) (fl : List Value), xs.length = k ∧ RowsP (fun d v => DenD (fun k => k < w.heap.size) w el d v) el.isAgg el.size xs fl ∧ (∀ x ∈ xs, Wf el x) ∧ ∀ j u, fl[j]? = some u → w.cell? (a.add j) = some u := by
            intro k
            induction k with
            | zero => intro _; exact ⟨[], [], rfl, by simp [RowsP], by simp, by simp⟩
            | succ k ihk =>
              intro hk
              obtain ⟨xs, fl, h1, h2, h3, h4⟩ := ihk (by omega)
              obtain ⟨row, ds, r1, r2, r3⟩ := rows k (by omega)
              obtain ⟨d, d1, d2⟩ := hrow row ds r3
              have hfl := h2.length
              refine ⟨xs ++ [d], fl ++ row, by simp [h1], h2.append ?_, ?_, ?_⟩
              · simp only [RowsP]
                exact ⟨row, [], by simp, by rw [r1, hsz], d2, rfl⟩
              · intro x hx
                rcases List.mem_append.1 hx with hx | hx
                · exact h3 x hx
                · simp at hx; subst hx; exact d1
              · intro j u hj
                rcases Nat.lt_or_ge j fl.length with hlt | hge
                · rw [List.getElem?_append_left hlt] at hj; exact h4 j u hj
                · rw [List.getElem?_append_right hge] at hj
                  have := r2 (j - fl.length) u hj
                  rw [hfl, h1, hsz] at this hge
                  rw [Nat.add_sub_cancel' (by simpa using hge)] at this
                  exact this
          obtain ⟨xs, fl, h1, h2, h3, h4⟩ := all len (Nat.le_refl _)
          refine ⟨[.l false xs], ?_⟩
          simp only [DenZ, Wf]
          refine ⟨_, _, _, _, rfl, rfl, ⟨_, _, rfl, by simp, by omega, h3⟩, ?_, rfl, rfl⟩
          simp only [DenD, D.nl, D.xs]
          refine ⟨some a, cap, by rw [h1], by omega, hcm, by simp, by simp, ?_⟩
          intro p hpa hne
          simp only [Option.some.injEq] at hpa; subst hpa
          have hlen0 : 0 < len := by
            have := List.length_pos_iff.2 hne; omega
          have hfl := h2.length
          have hfl0 : 0 < fl.length := by rw [hfl, hsz]; exact Nat.mul_pos (by omega) hpos
          have h40 := h4 0 fl[0] (List.getElem?_eq_getElem hfl0)
          obtain ⟨b, off, spot⟩ := a
          have hspot : spot = none := by simpa [Addr.add] using World.cell?_spot h40
          subst hspot
          refine ⟨rfl, ?_, fl, h2, fun j u hj => ?_⟩
          · have : MemPlace.cell b (off + 0) ∈ MemPlace.row ⟨b, off, none⟩ ((elems.length + rest.length) * P.cellsOf e) := by
              unfold MemPlace.row
              refine List.mem_map.2 ⟨0, List.mem_range.2 ?_, rfl⟩
              rw [hcell]; exact Nat.mul_pos (by omega) hpos
            exact hp _ (List.mem_append.2 (.inl this))
          · have := h4 j u hj
            rw [addr_add] at this; exact this
      split at h <;> try (cases h; done)
      · rename_i s r hls ha
        simp only [Option.some.injEq] at h; subst h
        refine key (s :: r) true (.agg (s :: r)) hls (by simp) rfl (by simp [Sh.size]) ?_
        intro row ds hz
        refine ⟨.a ds, ?_, ?_⟩
        · simp only [Wf]; exact ⟨ds, rfl, hz.wf⟩
        · simp only [Sh.isAgg, packV, DenD]
          exact ⟨row, rfl, hz.den⟩
      · rename_i s hls ha
        split at h
        · rename_i hag
          simp only [Option.some.injEq] at h; subst h
          refine key [s] false s hls (by simp) hag (by cases s <;> simp_all [Sh.size, Sh.isAgg]) ?_
          intro row ds hz
          simp only [DenZ] at hz
          obtain ⟨d, ds', v, vs', rfl, rfl, h1, h2, rfl, rfl⟩ := hz
          refine ⟨d, h1, ?_⟩
          rw [hag]; simpa [packV] using h2
        · cases h
    · -- a struct
      rename_i fs sz hu hs
      have hu' := und_of (P := P) hu
      split at h
      · rename_i l' hfl
        split at h
        · rename_i hb
          simp only [Option.some.injEq] at h; subst h
          simp only [Nat.beq_eq] at hb
          obtain ⟨xs, m, rfl, rfl, hlen, hxl, hget⟩ := DataW.trod_struct hu' hx
          rw [size_cells (P := P) hs] at hlen
          have fld : ∀ (k : Nat) (fr : List Field) (off : Nat) (lr : List Sh), fs.toList.drop k = fr → shC.fields T (shC T n) off fr = some lr → off + lr.length ≤ cs.length → ∃ ds, DenZ (fun k => k < w.heap.size) w lr ds ((cs.drop off).take lr.length) := by
            intro k fr
            induction fr generalizing k with
            | nil =>
              intro off lr _ hf _
              simp only [shC.fields, Option.some.injEq] at hf; subst hf
              exact ⟨[], by simp [DenZ]⟩
            | cons f r ihf =>
              intro off lr hdrop hf hle
              simp only [shC.fields] at hf
              split at hf
              · rename_i s hbo hrec
                simp only [Nat.beq_eq] at hbo
                split at hf
                · rename_i l2 hf2
                  simp only [Option.some.injEq] at hf; subst hf
                  simp only [List.length_append] at hle ⊢
                  have hk : fs.toList[k]? = some f := by
                    have : (fs.toList.drop k)[0]? = some f := by rw [hdrop]; rfl
                    rw [List.getElem?_drop] at this; simpa using this
                  have hk' : fs[k]? = some f := by simpa using hk
                  have hkl : k < xs.length := by
                    rw [hxl]; exact (Array.getElem?_eq_some_iff.1 hk').1
                  have h1 := hget k f hk'
                  rw [List.getElem?_eq_getElem hkl, size_cells (P := P) (shC_size n hrec), hbo] at h1
                  obtain ⟨ds1, hz1⟩ := ih hrec h1 (fun p hpp => hp p (List.mem_flatMap.2 ⟨xs[k], List.getElem_mem hkl, hpp⟩))
                  obtain ⟨ds2, hz2⟩ := ihf (k + 1) (off + s.length) l2 (by
                    have : fs.toList.drop (k + 1) = (fs.toList.drop k).drop 1 := by rw [List.drop_drop]
                    rw [this, hdrop]; rfl) hf2 (by omega)
                  refine ⟨ds1 ++ ds2, ?_⟩
                  have e : (cs.drop off).take (s.length + l2.length) = (cs.drop off).take s.length ++ (cs.drop (off + s.length)).take l2.length := by
                    rw [List.take_add, List.drop_drop]
                  rw [e]; exact hz1.append hz2
                · cases hf
              · cases hf
          obtain ⟨ds, hz⟩ := fld 0 fs.toList 0 l' rfl hfl (by omega)
          refine ⟨ds, ?_⟩
          rw [List.drop_zero, List.take_of_length_le (by omega)] at hz; exact hz
        · cases h
      · cases h
    · -- an array
      rename_i k e sz hu hs
      have hu' := und_of (P := P) hu
      split at h
      · rename_i s hrec
        split at h
        · rename_i hb
          simp only [Option.some.injEq] at h; subst h
          simp only [Nat.beq_eq] at hb
          obtain ⟨xs, m, rfl, rfl, hlen, hxl, hget⟩ := DataW.trod_array hu' hx
          rw [size_cells (P := P) hs, ← hb] at hlen
          have hcell : P.cellsOf e = s.length := size_cells (shC_size n hrec)
          have part : ∀ j, j ≤ k → ∃ ds, DenZ (fun k => k < w.heap.size) w (List.replicate j s).flatten ds (cs.take (j * s.length)) := by
            intro j
            induction j with
            | zero => intro _; exact ⟨[], by simp [DenZ]⟩
            | succ j ihj =>
              intro hj
              obtain ⟨ds, hz⟩ := ihj (by omega)
              have h1 := hget j (by omega)
              have hjl : j < xs.length := by omega
              rw [List.getElem?_eq_getElem hjl, hcell] at h1
              obtain ⟨ds2, hz2⟩ := ih hrec h1 (fun p hpp => hp p (List.mem_flatMap.2 ⟨xs[j], List.getElem_mem hjl, hpp⟩))
              refine ⟨ds ++ ds2, ?_⟩
              have e1 : (List.replicate (j + 1) s).flatten = (List.replicate j s).flatten ++ s := by rw [List.replicate_succ', List.flatten_append]; simp
              have e2 : cs.take ((j + 1) * s.length) = cs.take (j * s.length) ++ (cs.drop (j * s.length)).take s.length := by rw [Nat.add_mul, Nat.one_mul, List.take_add]
              rw [e1, e2]; exact hz.append hz2
          obtain ⟨ds, hz⟩ := part k (Nat.le_refl _)
          refine ⟨ds, ?_⟩
          rw [List.take_of_length_le (by omega)] at hz; exact hz
        · cases h
      · cases h
end
end Go.Sy
