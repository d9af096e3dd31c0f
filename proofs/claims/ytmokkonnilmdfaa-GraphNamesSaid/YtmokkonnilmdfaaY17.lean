/-
  A region that draws its order, whole ('drawnE_good'); a function, whole.
  No statement of the seat is proved here. Conditions: none.
-/
import Derived.Test.YtmokkonnilmdfaaY27
set_option linter.unusedSimpArgs false
set_option linter.unusedVariables false
namespace Go.Sy
open Go.RowKit

section
variable {P : Program} {T : Tab} [GoodTab P T] {E : Env} {call : CallE} {sq : Bool}

theorem fine_of {ops : Array Oper} {l : List Oper} {b : List Nat} (hat : ∀ (j : Nat) (o : Oper), l[j]? = some o → ∃ c : Nat, ops[c + j]? = some o) (h : scanOk ops b 0 l [] [] = true) : Fine ops l b := by
  have hsc := scanOk_spec l 0 [] [] h (fun t j hj => by simp at hj)
  refine ⟨?_⟩
  intro i j oi oj t hi hj hij hd
  by_cases hji : j < i
  · obtain ⟨_, _, g⟩ := hsc i oi hi
    have := (g j oj hji hj).1 t hd
    simp only [Nat.zero_add] at this
    refine ⟨this.1, fun ht => ?_⟩
    rw [if_pos hji]; exact this.2 ht
  · have hlt : i < j := by omega
    obtain ⟨_, _, g⟩ := hsc j oj hj
    have hg := g i oi hlt hi
    simp only [Nat.zero_add] at hg
    refine ⟨fun hdi => (hg.1 t hdi).1 hd, fun ht => ?_⟩
    rw [if_neg hji]; exact hg.2 t ht hd

def allYes' : Nat → Bool := fun _ => false
theorem outL_congr {m : Nat} {rs : List Res} {L L' : Nat → Bool} {H0 : Hp} : ∀ (V : Outs) (H : Hp), (∀ j x, rs[j]? = some x → L j = L' j) → outL m rs L H0 V H = outL m rs L' H0 V H
  | [], H, h => rfl
  | (_, q) :: r, H, h => by
    simp only [outL]
    rw [outL_congr r _ h, evAt_congr _ _ _ (fun j x b hj _ => by simpa using h j x hj)]
theorem newsEnd_eq (m : Nat) (rs : List Res) : newsEnd m rs = newsL m rs allYes := by
  unfold newsEnd
  split
  · rename_i hn
    unfold newsL
    have : ∀ k, evAt allYes k 0 rs none = none := fun k => noEv_spec hn allYes k 0 none
    simp only [this]
    rw [List.map_const', List.length_range]
  · rfl

/-- A state in the midst of a piece that draws its order. -/
def InPiece (sq : Bool) (T : Tab) (E : Env) (call : CallE) (ops : Array Oper) (a : Act) (st' : St) (B : List Nat) (Ld : Nat → Bool) (ρ1 : Names) (Φ1 : Nat → Prop) (a1 : Act) (w1 : World) : Prop :=
  ∃ (c n : Nat) (ns : List Nat) (stk : St) (U : Outs) (rs : List Res) (a0 : Act) (l : List Oper) (b : List Nat),
    l = (ops.toList.drop c).take n ∧ b = ((B.drop c).take n).map (fun x => x >>> c) ∧ l.length = n ∧ c + n ≤ ops.size ∧ Bd B (c + n) ∧ CutOk B (c + n) ns ∧
    (∀ i, i < c → Ld i = true) ∧ (∀ k, c + n ≤ k → Ld k = false) ∧ (∃ k, c ≤ k ∧ k < c + n ∧ Ld k = false) ∧
    Fine ops l b ∧ (∀ k j, (b.getD k 0).testBit j = true → j < k) ∧ outsOk b U = true ∧ evsOk n U b 0 rs = true ∧ rs.length = n ∧
    (∀ (j : Nat) (o : Oper), l[j]? = some o → ∃ x0 x, rs[j]? = some x ∧ x.2 = x0.2 ∧ (∀ (ρ : Names) (Φ : Nat → Prop) (w : World) (v : Value), x0.1.ok ρ Φ w v → x.1.ok ρ Φ w v) ∧
      (earlyStep T E call ops stk.heap.length n U (outFor n b j (rs.take j) U stk.heap U stk.heap ++ newsFor n (b.getD j 0) (rs.take j)) j o (tmAt (l.take j) (rs.take j) stk.tmps)).run = some x0) ∧
    (∀ t, (∀ o ∈ ops.toList, o.dst ≠ some t) → a0.tmps[t]? = a.tmps[t]?) ∧
    RepE U l rs stk.tmps a0 stk.heap (fun j => Ld (c + j)) ρ1 Φ1 a1 w1 ∧
    (segsE sq T E call ops ns (c + n) (B.drop (c + n)) (ops.toList.drop (c + n)) { tmps := tmAt l rs stk.tmps, heap := outL n rs allYes stk.heap U stk.heap ++ newsL n rs allYes }).run = some st'

/-- A state in the midst of a piece whose operations that turn something come one behind the other. -/
def InSeq (sq : Bool) (T : Tab) (E : Env) (call : CallE) (ops : Array Oper) (a : Act) (st' : St) (B : List Nat) (Ld : Nat → Bool) (ρ1 : Names) (Φ1 : Nat → Prop) (a1 : Act) (w1 : World) : Prop :=
  ∃ (c n : Nat) (ns : List Nat) (stk : St) (rd : List (Option (List Nat))) (rs : List Res) (hs : Nat → Hp) (a0 : Act) (l : List Oper) (b : List Nat) (p : Nat),
    l = (ops.toList.drop c).take n ∧ b = ((B.drop c).take n).map (fun x => x >>> c) ∧ l.length = n ∧ c + n ≤ ops.size ∧ Bd B (c + n) ∧ CutOk B (c + n) ns ∧
    (∀ i, i < c → Ld i = true) ∧ (∀ k, c + n ≤ k → Ld k = false) ∧ (∃ k, c ≤ k ∧ k < c + n ∧ Ld k = false) ∧
    SeqOK T E call ops l b rd rs hs stk.tmps ∧ (∀ t, (∀ o ∈ ops.toList, o.dst ≠ some t) → a0.tmps[t]? = a.tmps[t]?) ∧
    RepS l rs stk.tmps a0 (fun j => Ld (c + j)) ρ1 Φ1 a1 w1 ∧ p ≤ n ∧ (∀ (j : Nat) (o : Oper), l[j]? = some o → isPure o.op = false → (Ld (c + j) = true ↔ j < p)) ∧ Rel ρ1 (hs p) Φ1 w1 ∧
    (segsE sq T E call ops ns (c + n) (B.drop (c + n)) (ops.toList.drop (c + n)) { tmps := tmAt l rs stk.tmps, heap := hs n }).run = some st'
def Mid (sq : Bool) (T : Tab) (E : Env) (call : CallE) (ops : Array Oper) (a : Act) (st' : St) (B : List Nat) (Ld : Nat → Bool) (ρ1 : Names) (Φ1 : Nat → Prop) (a1 : Act) (w1 : World) : Prop :=
  InPiece sq T E call ops a st' B Ld ρ1 Φ1 a1 w1 ∨ InSeq sq T E call ops a st' B Ld ρ1 Φ1 a1 w1

/-- A state between pieces. -/
def AtCut (sq : Bool) (T : Tab) (E : Env) (call : CallE) (ops : Array Oper) (a : Act) (st' : St) (B : List Nat) (Ld : Nat → Bool) (ρ1 : Names) (Φ1 : Nat → Prop) (a1 : Act) (w1 : World) : Prop :=
  ∃ (c : Nat) (ns : List Nat) (stk : St), c ≤ ops.size ∧ CutOk B c ns ∧ (∀ i, Ld i = true ↔ i < c) ∧ Sat ρ1 Φ1 stk a1 w1 ∧ (∀ t, (∀ o ∈ ops.toList, o.dst ≠ some t) → a1.tmps[t]? = a.tmps[t]?) ∧
    (segsE sq T E call ops ns c (B.drop c) (ops.toList.drop c) stk).run = some st'

/-- All is done, or one operation is next, or a piece that draws its order. -/
theorem enter_piece {ops : Array Oper} {a : Act} {st' : St} {B : List Nat} (hB : B.length = ops.size) (hlowB : ∀ k j, (B.getD k 0).testBit j = true → j < k) {Ld : Nat → Bool} {ρ1 : Names} {Φ1 : Nat → Prop} {a1 : Act} {w1 : World} :
    ∀ (ns : List Nat) (c : Nat) (stk : St), c ≤ ops.size → CutOk B c ns → (∀ i, Ld i = true ↔ i < c) → Sat ρ1 Φ1 stk a1 w1 → (∀ t, (∀ o ∈ ops.toList, o.dst ≠ some t) → a1.tmps[t]? = a.tmps[t]?) →
      (segsE sq T E call ops ns c (B.drop c) (ops.toList.drop c) stk).run = some st' →
      ((∀ i, Ld i = true ↔ i < ops.size) ∧ Sat ρ1 Φ1 st' a1 w1) ∨
      (∃ (c : Nat) (o : Oper) (ns : List Nat) (stk : St), c < ops.size ∧ ops[c]? = some o ∧ Bd B (c + 1) ∧ CutOk B (c + 1) ns ∧ (∀ i, Ld i = true ↔ i < c) ∧ Sat ρ1 Φ1 stk a1 w1 ∧
        ((stepE T E call ops o stk).bind (forkSt (guardy ops o) o.dst (segsE sq T E call ops ns (c + 1) (B.drop (c + 1)) (ops.toList.drop (c + 1))))).run = some st') ∨
      Mid sq T E call ops a st' B Ld ρ1 Φ1 a1 w1
  | [], c, stk, hc, hcut, hL, hs, hfr, hrun => by
    simp only [segsE, Tree.run, Option.some.injEq] at hrun; subst hrun
    simp only [CutOk] at hcut
    have : c = ops.size := by omega
    subst this
    exact .inl ⟨hL, hs⟩
  | n :: ns, c, stk, hc, hcut, hL, hs, hfr, hrun => by
    simp only [CutOk] at hcut
    obtain ⟨h1, h2, h3⟩ := hcut
    cases n with
    | zero =>
      simp only [segsE] at hrun
      exact enter_piece hB hlowB ns c stk hc h3 hL hs hfr hrun
    | succ n =>
      cases n with
      | zero =>
        have hlt : c < ops.toList.length := by simp; omega
        have hdrop : ops.toList.drop c = ops.toList[c] :: ops.toList.drop (c + 1) := List.drop_eq_getElem_cons hlt
        rw [hdrop] at hrun
        simp only [segsE, List.drop_drop] at hrun
        exact .inr (.inl ⟨c, ops.toList[c], ns, stk, by simpa using hlt, by simp [Array.getElem?_eq_getElem (by simpa using hlt : c < ops.size)], h2, h3, hL, hs, hrun⟩)
      | succ n =>
        simp only [segsE, List.drop_drop] at hrun
        generalize hl : (ops.toList.drop c).take (n + 2) = l at hrun
        generalize hb : ((B.drop c).take (n + 2)).map (fun x => x >>> c) = b at hrun
        have hll : l.length = n + 2 := by rw [← hl]; simp; omega
        rcases Tree.run_bindOr hrun with ⟨⟨rs, He⟩, hp, hrest⟩ | hrun
        · simp only at hrest
          cases sq with
          | false => simp [Tree.run] at hp
          | true =>
          simp only at hp
          unfold seqP at hp
          split at hp
          · rename_i hck
            simp only [Bool.and_eq_true] at hck
            obtain ⟨hch, hsc, hlo⟩ := hck
            obtain ⟨xs, hs', hxs, hlen, e0, e1, hsteps⟩ := seqE_spec _ _ _ _ _ _ _ hp
            simp only [List.nil_append] at hxs; subst hxs
            simp only [Nat.zero_add] at hsteps
            have hlow : ∀ k j, (b.getD k 0).testBit j = true → j < k := by
              intro k j hj
              have := lowBits_spec b 0 hlo k j hj
              omega
            have hks : ∀ (j : Nat) (o : Oper) (d : Bool), l[j]? = some o → (l.map fun o => isPure o.op).getD j d = isPure o.op := by
              intro j o d hj
              rw [List.getD_eq_getElem?_getD, List.getElem?_map, hj]; rfl
            have hrdl : ∀ (l' : List Oper) (i : Nat), (readsL T l stk.tmps stk.heap b (l.map fun o => isPure o.op) i l').length = l'.length := by
              intro l'
              induction l' with
              | nil => intro i; rfl
              | cons o r ih => intro i; simp [readsL, ih]
            have hrdg : ∀ (l' : List Oper) (i k : Nat) (o : Oper), l'[k]? = some o → (readsL T l stk.tmps stk.heap b (l.map fun o => isPure o.op) i l').getD k none = (match (l.map fun o => isPure o.op).getD (i + k) true with | true => readsOf T l stk.tmps stk.heap b (l.map fun o => isPure o.op) (i + k) o | false => none) := by
              intro l'
              induction l' with
              | nil => intro i k o hk; simp at hk
              | cons x r ih =>
                intro i k o hk
                cases k with
                | zero => simp at hk; subst hk; simp only [readsL, Nat.add_zero, List.getD_cons_zero]; rfl
                | succ k =>
                  have := ih (i + 1) k o (by simpa using hk)
                  rw [show i + 1 + k = i + (k + 1) by omega] at this
                  simpa [readsL] using this
            have hno : ∀ j, Ld (c + j) = false := by
              intro j
              cases hk2 : Ld (c + j) with
              | false => rfl
              | true => have := (hL _).1 hk2; omega
            refine .inr (.inr (.inr ⟨c, n + 2, ns, stk, _, rs, hs', a1, l, b, 0, hl.symm, hb.symm, hll, by omega, h2, h3, fun i hi => (hL i).2 hi, fun k hk => ?_, ⟨c, Nat.le_refl _, by omega, by simpa using hno 0⟩,
              ⟨?_, hlow, ?_, hlen, hrdl l 0, ?_, ?_⟩, hfr, ⟨hs.defers, hs.size, ?_, fun t _ => rfl⟩, Nat.zero_le _, fun j o _ _ => by rw [hno]; simp, by rw [e0]; exact hs.rel, by rw [← hll, e1, hll]; exact hrest⟩))
            · cases hk2 : Ld k with
              | false => rfl
              | true => have := (hL k).1 hk2; omega
            · refine fine_of (fun j o hj => ⟨c, ?_⟩) hsc
              rw [← hl, List.getElem?_take] at hj
              split at hj
              · rw [List.getElem?_drop] at hj; simpa using hj
              · cases hj
            · intro i j oi oj hij hi hj hpi hpj
              unfold chainOk at hch
              rw [List.all_eq_true] at hch
              have hjl : j < l.length := (List.getElem?_eq_some_iff.1 hj).1
              have h4 := hch j (List.mem_range.2 (by simpa using hjl))
              rw [hks j oj true hj, hpj, Bool.false_or, List.all_eq_true] at h4
              have h5 := h4 i (List.mem_range.2 hij)
              rw [hks i oi true hi, hpi, Bool.false_or] at h5
              exact h5
            · intro i o hi
              obtain ⟨x0, x, g1, g2, g3⟩ := hsteps i o hi
              rw [hks i o false hi] at g3
              exact ⟨x0, x, g1, g2, g3⟩
            · intro i o hi hpi hrd j oj hj hpj
              rw [hrdg l 0 i o hi, Nat.zero_add, hks i o true hi, hpi] at hrd
              simp only at hrd
              unfold readsOf at hrd
              split at hrd
              · rename_i hany
                rw [List.any_eq_false] at hany
                have hjl : j < l.length := (List.getElem?_eq_some_iff.1 hj).1
                have := hany j (List.mem_range.2 (by simpa using hjl))
                rw [hks j oj true hj, hpj] at this
                simpa using this
              · cases hrd
            · intro t s0 ht
              obtain ⟨v, hv, hok⟩ := hs.slot t s0 ht
              exact ⟨v, hv, .inr ⟨fun j o hj => (by simp only [hno] at hj; cases hj), hok⟩⟩
          · simp [Tree.run] at hp
        obtain ⟨⟨U, rs⟩, hp, hrest⟩ := Tree.run_bind hrun
        simp only at hrest
        unfold pieceE at hp
        simp only at hp
        split at hp
        · rename_i hck
          simp only [Bool.and_eq_true] at hck
          obtain ⟨hsc, hlo, hUok⟩ := hck
          obtain ⟨rs', he, hp2⟩ := Tree.run_bind hp
          split at hp2
          · rename_i hev
            simp only [Tree.run, Option.some.injEq, Prod.mk.injEq] at hp2
            obtain ⟨rfl, rfl⟩ := hp2
            obtain ⟨xs, hxs, hlen, hsteps⟩ := earlyE_spec _ _ _ _ he
            simp only [List.nil_append] at hxs; subst hxs
            simp only [List.length_nil, Nat.zero_add, List.nil_append] at hsteps
            rw [hll] at hsteps hev hlen hrest
            have hlow : ∀ k j, (b.getD k 0).testBit j = true → j < k := by
              intro k j hj
              have := lowBits_spec b 0 hlo k j hj
              omega
            rw [newsEnd_eq] at hrest
            have hr := hs.rel
            refine .inr (.inr (.inl ⟨c, n + 2, ns, stk, _, rs', a1, l, b, hl.symm, hb.symm, hll, by omega, h2, h3, fun i hi => (hL i).2 hi, fun k hk => ?_, ⟨c, Nat.le_refl _, by omega, ?_⟩, ?_, hlow, hUok, hev, hlen, hsteps, hfr, ?_, hrest⟩))
            · cases hk2 : Ld k with
              | false => rfl
              | true => have := (hL k).1 hk2; omega
            · cases hk2 : Ld c with
              | false => rfl
              | true => have := (hL c).1 hk2; omega
            · refine fine_of (fun j o hj => ⟨c, ?_⟩) hsc
              rw [← hl, List.getElem?_take] at hj
              split at hj
              · rw [List.getElem?_drop] at hj; simpa using hj
              · cases hj
            · have hno : ∀ j, Ld (c + j) = false := by
                intro j
                cases hk2 : Ld (c + j) with
                | false => rfl
                | true => have := (hL _).1 hk2; omega
              refine ⟨hs.defers, hs.size, ?_, fun t _ => rfl, ?_, ?_⟩
              · intro t s0 ht
                obtain ⟨v, hv, hok⟩ := hs.slot t s0 ht
                exact ⟨v, hv, .inr ⟨fun j o hj => (by simp only [hno] at hj; cases hj), hok⟩⟩
              · intro k _
                cases hρ : ρ1 (stk.heap.length + k) with
                | none => rfl
                | some x => have := hs.rel.dom _ _ hρ; omega
              · rw [hll]
                refine hr.sub (fun k b' hk => ?_) (by simp [outL_length])
                rw [hget_iff] at hk
                rcases Nat.lt_or_ge k stk.heap.length with hlt | hge
                · rw [List.getElem?_append_left (by rw [outL_length]; exact hlt)] at hk
                  rcases outL_get (m := n + 2) (rs := rs') (L := fun j => Ld (c + j)) (H0 := stk.heap) (outsOf T E l stk.heap stk.tmps 0 l) stk.heap k hlt with ⟨h3', _⟩ | ⟨h3', _⟩
                  · rw [h3', evAt_skip _ _ _ (fun i x b _ _ => by simpa using hno i)] at hk
                    simpa using hk
                  · rw [h3'] at hk; exact hget_iff.2 hk
                · rw [List.getElem?_append_right (by rw [outL_length]; exact hge), outL_length] at hk
                  have hkl : k - stk.heap.length < n + 2 := by
                    have := (List.getElem?_eq_some_iff.1 hk).1; simpa [newsL_length] using this
                  rw [newsL_get hkl, evAt_skip _ _ _ (fun i x b _ _ => by simpa using hno i)] at hk
                  simp at hk
          · simp [Tree.run] at hp2
        · simp [Tree.run] at hp

/-- One operation in the midst of such a piece. -/
theorem inSeq_step {ops : Array Oper} (hcall : GoodCall P call) (hE : GoodEnv P E) {a : Act} {st' : St} {B : List Nat} (hBl : B.length = ops.size) {Ld : Nat → Bool} {ρ1 : Names} {Φ1 : Nat → Prop} {a1 : Act} {w1 : World}
    (hin : InSeq sq T E call ops a st' B Ld ρ1 Φ1 a1 w1) {i : Nat} {o : Oper} (hisz : i < ops.size) (hoL : ops.toList[i]? = some o) (hLi : Ld i = false) (hbi : ∀ k, (B.getD i 0).testBit k = true → Ld k = true)
    (hcl : ∀ j, Ld j = true → ∀ k, (B.getD j 0).testBit k = true → Ld k = true) {K : Act → World → Prop} {Q : Exit → Act → World → Prop}
    (hK : ∀ (ρ2 : Names) (Φ2 : Nat → Prop) (a2 : Act) (w2 : World), Grow ρ1 Φ1 w1 ρ2 Φ2 w2 → (Mid sq T E call ops a st' B (more Ld i) ρ2 Φ2 a2 w2 ∨ AtCut sq T E call ops a st' B (more Ld i) ρ2 Φ2 a2 w2) → K a2 w2) :
    if Region.wanted o (yielded ops a1.tmps) then o.wp P a1 w1 K Q else K (a1.put o.dst undef) w1 := by
  obtain ⟨c, n, ns, stk, rd, rs, hs, a0, l, b, p, hl, hb, hll, hcn, hbd, hcut, hdone, hnot, ⟨k0, hk1, hk2, hk3⟩, ok, hfr0, hrep, hpn, hpos, hrel, hrest⟩ := hin
  have hci : c ≤ i := by
    rcases Nat.lt_or_ge i c with hlt | hge
    · rw [hdone i hlt] at hLi; cases hLi
    · exact hge
  have hicn : i < c + n := by
    rcases Nat.lt_or_ge i (c + n) with hlt | hge
    · exact hlt
    · have := hbi k0 (hbd i hge (by omega) k0 hk2)
      rw [this] at hk3; cases hk3
  have hbget : ∀ j, j < n → b.getD j 0 = B.getD (c + j) 0 >>> c := by
    intro j hj
    rw [hb, List.getD_eq_getElem?_getD, List.getElem?_map, List.getElem?_take, if_pos hj, List.getElem?_drop, List.getD_eq_getElem?_getD]
    cases B[c + j]? <;> simp
  have hbbit : ∀ j k, (b.getD j 0).testBit k = true → j < n → (B.getD (c + j) 0).testBit (c + k) = true := by
    intro j k hk hj
    rw [hbget j hj, Nat.testBit_shiftRight] at hk
    exact hk
  have hblen : ∀ j k, (b.getD j 0).testBit k = true → j < n := by
    intro j k hk
    rcases Nat.lt_or_ge j n with hlt | hge
    · exact hlt
    · rw [List.getD_eq_getElem?_getD, List.getElem?_eq_none (by rw [hb]; simp; omega)] at hk
      simp at hk
  have hoT : l[i - c]? = some o := by
    rw [hl, List.getElem?_take, if_pos (by omega), List.getElem?_drop, show c + (i - c) = i by omega]; exact hoL
  have hmore : more (fun j => Ld (c + j)) (i - c) = fun j => more Ld i (c + j) := by
    funext j
    simp only [more]
    congr 1
    rw [Bool.eq_iff_iff]
    simp only [beq_iff_eq]
    omega
  refine seq_sound hcall hE ok hrep (by omega) hpos hrel (fun j hj k hk => hcl (c + j) hj (c + k) (hbbit j k hk (hblen j k hk))) hoT (by simpa [show c + (i - c) = i by omega] using hLi) (fun k hk => hbi (c + k) (by
    have := hbbit (i - c) k hk (by omega)
    rwa [show c + (i - c) = i by omega] at this)) ?_
  intro ρ2 Φ2 v w2 p' hg2 hrep2 hpn' hpos' hrel'
  rw [hmore] at hrep2 hpos'
  refine hK ρ2 Φ2 _ w2 hg2 ?_
  have hfr2 : ∀ t, (∀ o ∈ ops.toList, o.dst ≠ some t) → (a1.put o.dst v).tmps[t]? = a.tmps[t]? := by
    intro t ht
    rw [hrep2.frame t (fun o' ho' => ht o' (by rw [hl] at ho'; exact List.mem_of_mem_drop (List.mem_of_mem_take ho')))]
    exact hfr0 t ht
  by_cases hdn : ∃ k, c ≤ k ∧ k < c + n ∧ more Ld i k = false
  · refine .inl (.inr ⟨c, n, ns, stk, rd, rs, hs, a0, l, b, p', hl, hb, hll, hcn, hbd, hcut, fun k hk => by simp [more, hdone k hk], fun k hk => ?_, hdn, ok, hfr0, hrep2, by omega, hpos', hrel', hrest⟩)
    have h1 := hnot k hk
    have h2 : ¬ k = i := by omega
    simp [more, h1, h2]
  · have hall : ∀ j, j < c + n → more Ld i j = true := by
      intro j hj
      rcases Nat.lt_or_ge j c with hlt | hge
      · simp [more, hdone j hlt]
      · cases hmj : more Ld i j with
        | true => rfl
        | false => exact absurd ⟨j, hge, hj, hmj⟩ hdn
    -- what is left of the heaps are those of reading
    have hlast : ∀ d, p' + d ≤ n → hs (p' + d) = hs p' := by
      intro d
      induction d with
      | zero => intro _; rfl
      | succ d ih =>
        intro hd
        rw [← ih (by omega)]
        have hjl : l[p' + d]? = some l[p' + d] := List.getElem?_eq_getElem (by omega)
        obtain ⟨y0, y, _, _, hst⟩ := ok.steps (p' + d) _ hjl
        cases hq : isPure l[p' + d].op with
        | true => rw [hq] at hst; exact seqStep_pure hst
        | false =>
          have := (hpos' (p' + d) _ hjl hq).1 (hall (c + (p' + d)) (by omega))
          omega
    have hend : hs n = hs p' := by
      have := hlast (n - p') (by omega)
      rwa [show p' + (n - p') = n by omega] at this
    refine .inr ⟨c + n, ns, _, hcn, hcut, ?_, ?_, hfr2, hrest⟩
    · intro j
      constructor
      · intro hj
        rcases Nat.lt_or_ge j (c + n) with hlt | hge
        · exact hlt
        · have h1 := hnot j hge
          have h2 : ¬ j = i := by omega
          simp [more, h1, h2] at hj
      · exact hall j
    · refine ⟨hrep2.defers, by rw [tmAt_length]; exact hrep2.size, ?_, by rw [hend]; exact hrel'⟩
      intro t s hts
      have htl : t < stk.tmps.length := by
        have := Tm.lt_of_get hts
        rwa [tmAt_length] at this
      obtain ⟨v', hv, hor3⟩ := hrep2.slot t stk.tmps[t] (Tm.get_of_lt htl)
      refine ⟨v', hv, ?_⟩
      have hrl := ok.len
      rcases tmAt_get _ _ _ t s hrl hts with ⟨j, oj, y, h1, h2, h3, h4⟩ | ⟨h1, h2⟩
      · rcases hor3 with ⟨j', oj', y', _, h1', h2', h3', h4'⟩ | ⟨hno, _⟩
        · by_cases hjj : j = j'
          · subst hjj
            rw [h2] at h2'
            simp only [Option.some.injEq] at h2'
            subst h2'; subst h4; exact h4'
          · exact absurd h3' (ok.fine.pair j' j oj' oj t h1' h1 (fun e => hjj e.symm) h3).1
        · have hjm : j < n := by
            have := (List.getElem?_eq_some_iff.1 h1).1
            omega
          exact absurd h3 (hno j oj (hall (c + j) (by omega)) h1)
      · rcases hor3 with ⟨j', oj', y', _, h1', h2', h3', h4'⟩ | ⟨_, hok⟩
        · exact absurd h3' (h1 j' oj' h1')
        · rw [Tm.get_of_lt htl] at h2
          simp only [Option.some.injEq] at h2
          subst h2; exact hok

theorem drawnE_good (hm : P.follows .mixedOrders = true) (hcall : GoodCall P call) (hE : GoodEnv P E) : GoodDrawn P (drawnE sq T E call) := by
  intro ops id ρ Φ w st a st' Q hs h hQ
  unfold drawnE at h
  simp only at h
  split at h
  case h_2 => simp [Tree.run] at h
  rename_i hedges
  have hBl : (bef ops.toList []).length = ops.size := by rw [bef_length]; simp
  have hspec : ∀ (i : Nat) (o : Oper), ops.toList[i]? = some o → ∀ j, ((bef ops.toList []).getD i 0).testBit j = true → ∃ e ∈ o.after.toList, Region.binds .any e = true ∧ (e.on = j ∨ ((bef ops.toList []).getD e.on 0).testBit j = true) := fun i o hi j hj => bef_spec hi hj
  have hcuts := cutsOf_ok (bef ops.toList []) ((bef ops.toList []).length - 0) 0 0 rfl (Nat.le_refl _) (Nat.zero_le _)
  rw [List.drop_zero, Nat.sub_zero] at hcuts
  have hedge : ∀ (i : Nat) (o : Oper), ops[i]? = some o → ∀ e ∈ o.after.toList, Region.binds .any e = true → e.on < i := by
    intro i o hi e he hb
    have := edgesOk_spec ops.toList 0 hedges i o (by simpa using hi) e he hb
    omega
  have hlowB : ∀ k j, ((bef ops.toList []).getD k 0).testBit j = true → j < k := by
    intro k
    induction k using Nat.strongRecOn with
    | _ k ihk =>
      intro j hj
      have hk : k < ops.toList.length := by
        rcases Nat.lt_or_ge k ops.toList.length with hlt | hge
        · exact hlt
        · rw [List.getD_eq_getElem?_getD, List.getElem?_eq_none (by rw [bef_length]; simpa using hge)] at hj
          simp at hj
      obtain ⟨e, he, hb, hor⟩ := hspec k _ (List.getElem?_eq_getElem hk) j hj
      have hlt := hedge k _ (by simp [Array.getElem?_eq_getElem (by simpa using hk : k < ops.size)]) e he hb
      rcases hor with rfl | hor
      · exact hlt
      · have := ihk e.on hlt j hor; omega
  generalize hBB : bef ops.toList [] = B at *
  refine wp_region_any hm ?_
  have main : ∀ (fuel : Nat) (listed : Array Bool), listed.size = ops.size → (List.range ops.size).countP (fun i => !isL listed i) ≤ fuel →
      (∀ j, isL listed j = true → ∀ k, (B.getD j 0).testBit k = true → isL listed k = true) →
      ∀ (ρ1 : Names) (Φ1 : Nat → Prop) (a1 : Act) (w1 : World), Grow ρ Φ w ρ1 Φ1 w1 →
      (Mid sq T E call ops a st' B (isL listed) ρ1 Φ1 a1 w1 ∨ AtCut sq T E call ops a st' B (isL listed) ρ1 Φ1 a1 w1) →
      wpAny P .any ops Q fuel listed a1 w1 := by
    intro fuel
    induction fuel with
    | zero =>
      intro listed hsz hcount hcl ρ1 Φ1 a1 w1 hg1 hor
      have hall : ∀ i, i < ops.size → isL listed i = true := by
        intro i hi
        have h0 : (List.range ops.size).countP (fun i => !isL listed i) = 0 := by omega
        rw [List.countP_eq_zero] at h0
        have := h0 i (List.mem_range.2 hi)
        simpa using this
      refine ⟨?_, ?_⟩
      · rcases hr : Region.ready .any ops listed with _ | ⟨i, r⟩
        · rfl
        · have hi : i ∈ Region.ready .any ops listed := by rw [hr]; simp
          obtain ⟨h1, h2, _⟩ := (ready_spec hsz).1 hi
          rw [hall i h1] at h2; cases h2
      · have hpiece : ¬ Mid sq T E call ops a st' B (isL listed) ρ1 Φ1 a1 w1 := by
          rintro (⟨c, n, ns, stk, U, rs, a0, l, b, _, _, _, hcn, _, _, _, _, ⟨k, _, hk2, hk3⟩, _⟩ | ⟨c, n, ns, stk, rd, rs, hs', a0, l, b, p, _, _, _, hcn, _, _, _, _, ⟨k, _, hk2, hk3⟩, _⟩)
          · rw [hall k (by omega)] at hk3; cases hk3
          · rw [hall k (by omega)] at hk3; cases hk3
        rcases hor with hin | ⟨c, ns, stk, hc, hcut, hiff, hsat, hfr, hrun⟩
        · exact absurd hin hpiece
        · rcases enter_piece hBl hlowB ns c stk hc hcut hiff hsat hfr hrun with ⟨_, hsat'⟩ | ⟨c', o, ns', stk', hlt, _, _, _, hiff', _⟩ | hin
          · exact hQ ρ1 Φ1 a1 w1 hg1 hsat' hfr
          · have := (hiff' c').1 (hall c' hlt); omega
          · exact absurd hin hpiece
    | succ fuel ih =>
      intro listed hsz hcount hcl ρ1 Φ1 a1 w1 hg1 hor
      refine ⟨?_, ?_⟩
      · intro hnil
        have hall : ∀ i, i < ops.size → isL listed i = true := by
          intro i
          induction i using Nat.strongRecOn with
          | _ i ihi =>
            intro hi
            cases hLi : isL listed i with
            | true => rfl
            | false =>
              have : i ∈ Region.ready .any ops listed := by
                refine (ready_spec hsz).2 ⟨hi, hLi, ops[i], Array.getElem?_eq_getElem hi, ?_⟩
                intro e he hb
                have hlt := hedge i ops[i] (Array.getElem?_eq_getElem hi) e he hb
                exact ihi e.on hlt (by omega)
              rw [hnil] at this; cases this
        have hpiece : ¬ Mid sq T E call ops a st' B (isL listed) ρ1 Φ1 a1 w1 := by
          rintro (⟨c, n, ns, stk, U, rs, a0, l, b, _, _, _, hcn, _, _, _, _, ⟨k, _, hk2, hk3⟩, _⟩ | ⟨c, n, ns, stk, rd, rs, hs', a0, l, b, p, _, _, _, hcn, _, _, _, _, ⟨k, _, hk2, hk3⟩, _⟩)
          · rw [hall k (by omega)] at hk3; cases hk3
          · rw [hall k (by omega)] at hk3; cases hk3
        rcases hor with hin | ⟨c, ns, stk, hc, hcut, hiff, hsat, hfr, hrun⟩
        · exact absurd hin hpiece
        · rcases enter_piece hBl hlowB ns c stk hc hcut hiff hsat hfr hrun with ⟨_, hsat'⟩ | ⟨c', o, ns', stk', hlt, _, _, _, hiff', _⟩ | hin
          · exact hQ ρ1 Φ1 a1 w1 hg1 hsat' hfr
          · have := (hiff' c').1 (hall c' hlt); omega
          · exact absurd hin hpiece
      · intro i hi
        obtain ⟨hin, hLi, o, ho, hafter⟩ := (ready_spec hsz).1 hi
        have hsz' : (listed.setIfInBounds i true).size = ops.size := by simpa using hsz
        have hL' : isL (listed.setIfInBounds i true) = more (isL listed) i := isL_set (by omega)
        have hoL : ops.toList[i]? = some o := by simpa using ho
        have hbi : ∀ k, (B.getD i 0).testBit k = true → isL listed k = true := by
          intro k hk
          obtain ⟨e, he, hb, hor2⟩ := hspec i o hoL k hk
          rcases hor2 with rfl | hk2
          · exact hafter e he hb
          · exact hcl e.on (hafter e he hb) k hk2
        have hcl' : ∀ j, isL (listed.setIfInBounds i true) j = true → ∀ k, (B.getD j 0).testBit k = true → isL (listed.setIfInBounds i true) k = true := by
          rw [hL']
          intro j hj k hk
          simp only [more, Bool.or_eq_true, beq_iff_eq] at hj ⊢
          rcases hj with rfl | hj
          · exact .inr (hbi k hk)
          · exact .inr (hcl j hj k hk)
        have hcount' : (List.range ops.size).countP (fun j => !isL (listed.setIfInBounds i true) j) ≤ fuel := by
          have := countP_lt (p := fun j => !isL listed j) (p' := fun j => !isL (listed.setIfInBounds i true) j) (i := i) (by
            intro j hj
            rw [hL'] at hj
            simp [more] at hj
            simp [hj.2]) (by simp [hLi]) (by rw [hL']; simp [more]) (List.range ops.size) (List.mem_range.2 hin)
          omega
        have hnext : ∀ (ρ2 : Names) (Φ2 : Nat → Prop) (a2 : Act) (w2 : World), Grow ρ1 Φ1 w1 ρ2 Φ2 w2 →
            (Mid sq T E call ops a st' B (more (isL listed) i) ρ2 Φ2 a2 w2 ∨ AtCut sq T E call ops a st' B (more (isL listed) i) ρ2 Φ2 a2 w2) →
            wpAny P .any ops Q fuel (listed.setIfInBounds i true) a2 w2 := by
          intro ρ2 Φ2 a2 w2 hg2 hor2
          rw [← hL'] at hor2
          exact ih _ hsz' hcount' hcl' ρ2 Φ2 a2 w2 (hg1.trans hg2) hor2
        unfold wpOp
        simp only [ho]
        have wrap : (if Region.wanted o (yielded ops a1.tmps) then o.wp P a1 w1 (wpAny P .any ops Q fuel (listed.setIfInBounds i true)) Q else wpAny P .any ops Q fuel (listed.setIfInBounds i true) (a1.put o.dst undef) w1) →
            (if Region.wanted o (yielded ops a1.tmps) then o.wp P a1 w1 (wpAny P .any ops Q fuel (listed.setIfInBounds i true)) Q ∨ (o.asks P a1 w1 ∧ LetsOut Q) else wpAny P .any ops Q fuel (listed.setIfInBounds i true) (a1.put o.dst undef) w1) := by
          intro hh
          split at hh
          · rename_i hw; rw [if_pos hw]; exact .inl hh
          · rename_i hw; rw [if_neg hw]; exact hh
        apply wrap
        -- where are we?
        have where_ : Mid sq T E call ops a st' B (isL listed) ρ1 Φ1 a1 w1 ∨ ∃ (c : Nat) (o : Oper) (ns : List Nat) (stk : St), c < ops.size ∧ ops[c]? = some o ∧ Bd B (c + 1) ∧ CutOk B (c + 1) ns ∧ (∀ i, isL listed i = true ↔ i < c) ∧ Sat ρ1 Φ1 stk a1 w1 ∧ (∀ t, (∀ o ∈ ops.toList, o.dst ≠ some t) → a1.tmps[t]? = a.tmps[t]?) ∧
            ((stepE T E call ops o stk).bind (forkSt (guardy ops o) o.dst (segsE sq T E call ops ns (c + 1) (B.drop (c + 1)) (ops.toList.drop (c + 1))))).run = some st' := by
          rcases hor with hinp | ⟨c, ns, stk, hc, hcut, hiff, hsat, hfr, hrun⟩
          · exact .inl hinp
          · rcases enter_piece hBl hlowB ns c stk hc hcut hiff hsat hfr hrun with ⟨hall, _⟩ | ⟨c', o', ns', stk', q1, q2, q3, q4, q5, q6, q7⟩ | hinp
            · rw [(hall i).2 hin] at hLi; cases hLi
            · exact .inr ⟨c', o', ns', stk', q1, q2, q3, q4, q5, q6, hfr, q7⟩
            · exact .inl hinp
        rcases where_ with (⟨c, n, ns, stk, U, rs, a0, l, b, hl, hb, hll, hcn, hbd, hcut, hdone, hnot, ⟨k0, hk1, hk2, hk3⟩, hfine, hlow, hUok, hevs, hrl, hsteps, hfr0, hrep, hrest⟩ | hseq) | ⟨c, o', ns, stk, hcs, hoc, hbd, hcut, hiff, hsat, hfr, hrun⟩
        · -- in the midst of a piece
          have hci : c ≤ i := by
            rcases Nat.lt_or_ge i c with hlt | hge
            · rw [hdone i hlt] at hLi; cases hLi
            · exact hge
          have hicn : i < c + n := by
            rcases Nat.lt_or_ge i (c + n) with hlt | hge
            · exact hlt
            · have := hbi k0 (hbd i hge (by omega) k0 hk2)
              rw [this] at hk3; cases hk3
          have hbget : ∀ j, j < n → b.getD j 0 = B.getD (c + j) 0 >>> c := by
            intro j hj
            rw [hb, List.getD_eq_getElem?_getD, List.getElem?_map, List.getElem?_take, if_pos hj, List.getElem?_drop, List.getD_eq_getElem?_getD]
            cases B[c + j]? <;> simp
          have hbbit : ∀ j k, (b.getD j 0).testBit k = true → j < n → (B.getD (c + j) 0).testBit (c + k) = true := by
            intro j k hk hj
            rw [hbget j hj, Nat.testBit_shiftRight] at hk
            exact hk
          have hblen : ∀ j k, (b.getD j 0).testBit k = true → j < n := by
            intro j k hk
            rcases Nat.lt_or_ge j n with hlt | hge
            · exact hlt
            · rw [List.getD_eq_getElem?_getD, List.getElem?_eq_none (by rw [hb]; simp; omega)] at hk
              simp at hk
          have hoT : l[i - c]? = some o := by
            rw [hl, List.getElem?_take, if_pos (by omega), List.getElem?_drop, show c + (i - c) = i by omega]; exact hoL
          obtain ⟨x0, x, hx, hxa, hxb, hst⟩ := hsteps (i - c) o hoT
          have hev : EvsFine l.length b rs := by
            intro j x k c hj hx hk
            have := evsOk_fine rs 0 hevs j x k c hj hx (by rwa [hll] at hk)
            simpa using this
          have hout : ∀ j x k c, rs[j]? = some x → x.2 = some (k, c) → l.length ≤ k → (j, k - l.length) ∈ U := by
            intro j x k c hj hx hk
            rw [hll] at hk ⊢
            have := evsOk_out rs 0 hevs j x k c hj hx hk
            simpa using this
          have hLc : isL listed (c + (i - c)) = false := by rw [show c + (i - c) = i by omega]; exact hLi
          have hmore : (more (fun j => isL listed (c + j)) (i - c)) = fun j => more (isL listed) i (c + j) := by
            funext j
            simp only [more]
            congr 1
            rw [Bool.eq_iff_iff]
            simp only [beq_iff_eq]
            omega
          refine early_sound (l := l) (b := b) (U := U) hcall hE hfine (by omega) hev hout hUok hlow hrep (fun j hj k hk => hcl (c + j) hj (c + k) (hbbit j k hk (hblen j k hk))) hoT hx hxa hxb hLc (fun k hk => hbi (c + k) (by
            have := hbbit (i - c) k hk (by omega)
            rwa [show c + (i - c) = i by omega] at this)) (by rw [hll]; exact hst) ?_
          intro ρ2 Φ2 v w2 hg2 hrep2
          rw [hmore] at hrep2
          refine hnext ρ2 Φ2 _ w2 hg2 ?_
          have hfr2 : ∀ t, (∀ o ∈ ops.toList, o.dst ≠ some t) → (a1.put o.dst v).tmps[t]? = a.tmps[t]? := by
            intro t ht
            rw [hrep2.frame t (fun o' ho' => ht o' (by rw [hl] at ho'; exact List.mem_of_mem_drop (List.mem_of_mem_take ho')))]
            exact hfr0 t ht
          by_cases hdn : ∃ k, c ≤ k ∧ k < c + n ∧ more (isL listed) i k = false
          · refine .inl (.inl ⟨c, n, ns, stk, U, rs, a0, l, b, hl, hb, hll, hcn, hbd, hcut, fun k hk => by simp [more, hdone k hk], fun k hk => ?_, hdn, hfine, hlow, hUok, hevs, hrl, hsteps, hfr0, hrep2, hrest⟩)
            have h1 := hnot k hk
            have h2 : ¬ k = i := by omega
            simp [more, h1, h2]
          · have hall : ∀ j, j < c + n → more (isL listed) i j = true := by
              intro j hj
              rcases Nat.lt_or_ge j c with hlt | hge
              · simp [more, hdone j hlt]
              · cases hmj : more (isL listed) i j with
                | true => rfl
                | false => exact absurd ⟨j, hge, hj, hmj⟩ hdn
            refine .inr ⟨c + n, ns, _, hcn, hcut, ?_, ?_, hfr2, hrest⟩
            · intro j
              constructor
              · intro hj
                rcases Nat.lt_or_ge j (c + n) with hlt | hge
                · exact hlt
                · have h1 := hnot j hge
                  have h2 : ¬ j = i := by omega
                  simp [more, h1, h2] at hj
              · exact hall j
            · refine ⟨hrep2.defers, by rw [tmAt_length]; exact hrep2.size, ?_, ?_⟩
              · intro t s hts
                have htl : t < stk.tmps.length := by
                  have := Tm.lt_of_get hts
                  rwa [tmAt_length] at this
                obtain ⟨v', hv, hor3⟩ := hrep2.slot t stk.tmps[t] (Tm.get_of_lt htl)
                refine ⟨v', hv, ?_⟩
                rcases tmAt_get _ _ _ t s (by omega) hts with ⟨j, oj, y, h1, h2, h3, h4⟩ | ⟨h1, h2⟩
                · rcases hor3 with ⟨j', oj', y', _, h1', h2', h3', h4'⟩ | ⟨hno, _⟩
                  · by_cases hjj : j = j'
                    · subst hjj
                      rw [h2] at h2'
                      simp only [Option.some.injEq] at h2'
                      subst h2'; subst h4; exact h4'
                    · exact absurd h3' (hfine.pair j' j oj' oj t h1' h1 (fun e => hjj e.symm) h3).1
                  · have hjm : j < n := by
                      have := (List.getElem?_eq_some_iff.1 h1).1
                      omega
                    exact absurd h3 (hno j oj (hall (c + j) (by omega)) h1)
                · rcases hor3 with ⟨j', oj', y', _, h1', h2', h3', h4'⟩ | ⟨_, hok⟩
                  · exact absurd h3' (h1 j' oj' h1')
                  · rw [Tm.get_of_lt htl] at h2
                    simp only [Option.some.injEq] at h2
                    subst h2; exact hok
              · have := hrep2.rel
                rw [hll] at this
                have hyes : ∀ j y, rs[j]? = some y → more (isL listed) i (c + j) = allYes j := by
                  intro j y hj
                  have hjm : j < n := by have := (List.getElem?_eq_some_iff.1 hj).1; omega
                  rw [hall (c + j) (by omega)]; rfl
                have e : newsL n rs (fun j => more (isL listed) i (c + j)) = newsL n rs allYes := by
                  unfold newsL
                  apply List.map_congr_left
                  intro k _
                  refine evAt_congr _ _ _ fun j y c hj _ => ?_
                  simp only [Nat.zero_add]
                  exact hyes j y hj
                have e2 : outL n rs (fun j => more (isL listed) i (c + j)) stk.heap U stk.heap = outL n rs allYes stk.heap U stk.heap := outL_congr _ _ hyes
                rw [e, e2] at this
                exact this
        · exact inSeq_step hcall hE hBl hseq hin hoL hLi hbi hcl hnext
        · -- one that stands alone
          have hik : i = c := by
            have h1 : ¬ i < c := fun hlt => by rw [(hiff i).2 hlt] at hLi; cases hLi
            rcases Nat.lt_or_ge c i with hlt | hge
            · have := hbi c (hbd i (by omega) (by omega) c (by omega))
              have := (hiff c).1 this; omega
            · omega
          subst hik
          rw [ho] at hoc
          simp only [Option.some.injEq] at hoc; subst hoc
          obtain ⟨st1, h1, h2⟩ := Tree.run_bind hrun
          obtain ⟨st2, h3, hst2⟩ := forkSt_run h2
          refine stepE_sound hcall hE hsat h1 ?_
          intro ρ2 Φ2 v w2 hg2 hs2
          refine hnext ρ2 Φ2 _ w2 hg2 (.inr ⟨i + 1, ns, st2, by omega, hcut, ?_, hst2 _ _ _ _ hs2, ?_, h3⟩)
          · intro j
            simp only [more, Bool.or_eq_true, beq_iff_eq, hiff]
            omega
          · intro t ht
            rw [put_frame _ _ _ _ (ht o (List.mem_of_getElem? hoL))]
            exact hfr t ht
  have hfalse : ∀ i, isL (Array.replicate ops.size false) i = false := by
    intro i; unfold isL
    rw [Array.getD_eq_getD_getElem?, Array.getElem?_replicate]
    split <;> rfl
  have gd : Grow ρ Φ w ρ Φ { w with drawn := w.drawn + 1 } := Grow.world (Ext.refl _ _).drew (fun _ _ _ => rfl)
  refine main ops.size _ (by simp) ?_ ?_ ρ Φ a _ gd ?_
  · have := List.countP_le_length (p := fun i => !isL (Array.replicate ops.size false) i) (l := List.range ops.size)
    simpa using this
  · intro j hj; rw [hfalse] at hj; cases hj
  · refine .inr ⟨0, _, st, Nat.zero_le _, hcuts, ?_, ⟨hs.defers, hs.size, ?_, hs.rel.drew⟩, fun t _ => rfl, ?_⟩
    · intro i; rw [hfalse]; simp
    · intro t s0 ht
      obtain ⟨v, hv, hok⟩ := hs.slot t s0 ht
      exact ⟨v, hv, Slot.ok_mono gd hok⟩
    · rw [List.drop_zero, List.drop_zero]; exact h

/-! ### Ways that meet again -/
theorem tmAt_other : ∀ (l : List Oper) (rs : List Res) (tm : Tm) (t : Nat), (∀ o ∈ l, o.dst ≠ some t) → (tmAt l rs tm)[t]? = tm[t]?
  | [], rs, tm, t, _ => by simp [tmAt]
  | o :: l, [], tm, t, _ => by simp [tmAt]
  | o :: l, x :: rs, tm, t, h => by
    simp only [tmAt]
    rw [tmAt_other l rs _ t (fun o' ho' => h o' (by simp [ho'])), putS_other (h o (by simp))]

/-- Piece by piece, where nothing is turned. -/
def segsP (T : Tab) (E : Env) (call : CallE) (ops : Array Oper) : List Nat → Nat → List Nat → List Oper → Hp → Tm → Tree Tm
  | [], _, _, _, _, tm => .ret tm
  | n :: r, c, b, l, H, tm => match n with
    | 0 => segsP T E call ops r c b l H tm
    | 1 => match l with
      | o :: l' => (stepP T E ops H o tm).bind (forkTm (guardy ops o) o.dst (segsP T E call ops r (c + 1) (b.drop 1) l' H))
      | [] => .bad "the order of a region"
    | n + 2 => (pieceE T E call ops ((b.take (n + 2)).map fun x => x >>> c) (l.take (n + 2)) tm H).bind fun x => match noEv x.2 with
      | true => segsP T E call ops r (c + (n + 2)) (b.drop (n + 2)) (l.drop (n + 2)) (H ++ List.replicate (l.take (n + 2)).length none) (tmAt (l.take (n + 2)) x.2 tm)
      | false => .bad "it turns something"
/-- The places that the pieces leave empty. -/
def padOf : List Nat → Nat → Nat
  | [], _ => 0
  | n :: r, k => match n with
    | 0 => padOf r k
    | 1 => padOf r (k - 1)
    | n + 2 => min (n + 2) k + padOf r (k - (n + 2))
theorem outL_noEv {m : Nat} {rs : List Res} {L : Nat → Bool} {H0 : Hp} (h : noEv rs = true) : ∀ (V : Outs) (H : Hp), (∀ k b, H[k]? = some b → hget H0 k = b) → outL m rs L H0 V H = H
  | [], H, _ => rfl
  | (_, q) :: r, H, hH => by
    simp only [outL]
    rw [noEv_spec h]
    have e : H.set q (hget H0 q) = H := by
      apply List.ext_getElem?
      intro k
      rw [List.getElem?_set]
      by_cases hk : q = k
      · subst hk
        by_cases hl : q < H.length
        · rw [if_pos rfl, if_pos hl, List.getElem?_eq_getElem hl, hH q _ (List.getElem?_eq_getElem hl)]
        · rw [if_pos rfl, if_neg hl, List.getElem?_eq_none (by omega)]
      · rw [if_neg hk]
    rw [e]
    exact outL_noEv h r H hH
theorem segsP_run {ops : Array Oper} : ∀ {ns : List Nat} {c : Nat} {b : List Nat} {l : List Oper} {H : Hp} {tm tm' : Tm}, (segsP T E call ops ns c b l H tm).run = some tm' →
    (segsE false T E call ops ns c b l ⟨tm, H⟩).run = some ⟨tm', H ++ List.replicate (padOf ns l.length) none⟩ ∧ tm'.length = tm.length ∧ ∀ t, (∀ o ∈ l, o.dst ≠ some t) → tm'[t]? = tm[t]?
  | [], c, b, l, H, tm, tm', h => by
    simp only [segsP, Tree.run, Option.some.injEq] at h; subst h
    exact ⟨by simp [segsE, padOf, Tree.run], rfl, fun _ _ => rfl⟩
  | n :: ns, c, b, l, H, tm, tm', h => by
    cases n with
    | zero =>
      simp only [segsP] at h
      simpa only [segsE, padOf] using segsP_run h
    | succ n =>
      cases n with
      | zero =>
        cases l with
        | nil => simp [segsP, Tree.run] at h
        | cons o l =>
          simp only [segsP] at h
          obtain ⟨tm1, h1, h2⟩ := Tree.run_bind h
          obtain ⟨tm2, h3, h4, h5⟩ := forkTm_run h2
          obtain ⟨q1, q2, q3⟩ := segsP_run h4
          have hst := stepP_run (call := call) h1
          obtain ⟨s0, rfl⟩ := stepP_frame h1
          have hlen1 : (putS tm o.dst s0).length = tm.length := putS_len
          have hoth : ∀ t, o.dst ≠ some t → (putS tm o.dst s0)[t]? = tm[t]? := fun t ht => putS_other ht
          refine ⟨?_, ?_, ?_⟩
          · simp only [segsE, padOf]
            rw [Tree.bind_run hst]
            rw [show (o :: l).length - 1 = l.length by simp]
            exact h5 _ H _ q1
          · rw [q2]
            rcases h3 with rfl | ⟨dd, s, _, rfl⟩
            · exact hlen1
            · rw [Tm.length_set]; exact hlen1
          · intro t ht
            rw [q3 t (fun o' ho' => ht o' (List.mem_cons_of_mem _ ho'))]
            have hd := ht o (by simp)
            rcases h3 with rfl | ⟨dd, s, hdd, rfl⟩
            · exact hoth t hd
            · rw [Tm.getElem?_set, if_neg (fun e => hd (by rw [hdd, e]))]; exact hoth t hd
      | succ n =>
        simp only [segsP] at h
        obtain ⟨⟨U, rs⟩, h1, h2⟩ := Tree.run_bind h
        simp only at h2
        split at h2
        · rename_i hn
          obtain ⟨q1, q2, q3⟩ := segsP_run h2
          have hlr : rs.length = (l.take (n + 2)).length := by
            unfold pieceE at h1
            simp only at h1
            split at h1
            · obtain ⟨rs', he, hp2⟩ := Tree.run_bind h1
              split at hp2
              · simp only [Tree.run, Option.some.injEq, Prod.mk.injEq] at hp2
                obtain ⟨_, rfl⟩ := hp2
                obtain ⟨xs, hxs, hlen, _⟩ := earlyE_spec _ _ _ _ he
                simp only [List.nil_append] at hxs; subst hxs
                exact hlen
              · simp [Tree.run] at hp2
            · simp [Tree.run] at h1
          refine ⟨?_, ?_, ?_⟩
          · simp only [segsE, padOf]
            rw [show ∀ (f : List Res × Hp → Tree St) (u : Unit → Tree St), ((Tree.bad "" : Tree (List Res × Hp)).bindOr f u) = u () from fun _ _ => rfl]
            rw [Tree.bind_run h1]
            simp only
            rw [outL_noEv hn _ _ (fun k b hk => by unfold hget; rw [hk]; cases b <;> rfl)]
            have e : newsEnd (l.take (n + 2)).length rs = List.replicate (l.take (n + 2)).length none := by unfold newsEnd; rw [hn]
            rw [e, q1]
            simp only [List.append_assoc, List.replicate_append_replicate, List.length_take, List.length_drop]
          · rw [q2, tmAt_length]
          · intro t ht
            rw [q3 t (fun o' ho' => ht o' (List.mem_of_mem_drop ho')), tmAt_other _ _ _ _ (fun o' ho' => ht o' (List.mem_of_mem_take ho'))]
        · simp [Tree.run] at h2

/-- A region that draws its order; its ways meet again, where they can. -/
def meetD (T : Tab) (E : Env) (call : CallE) (ops : Array Oper) (st : St) : Tree St :=
  match meets E ops && edgesOk 0 ops.toList with
  | true => match mergeT (dstsOf ops.toList) (segsP T E call ops (cutsOf 0 0 (allBef (bef ops.toList []))) 0 (bef ops.toList []) ops.toList st.heap st.tmps) with
    | some (n, ls) => needO n (.ret ⟨putAll st.tmps (dstsOf ops.toList) ls, st.heap ++ List.replicate (padOf (cutsOf 0 0 (allBef (bef ops.toList []))) ops.toList.length) none⟩)
    | none => drawnE true T E call ops st
  | false => drawnE true T E call ops st
theorem meetD_run {ops : Array Oper} {st st' : St} (h : (meetD T E call ops st).run = some st') : ∃ sq st1, (drawnE sq T E call ops st).run = some st1 ∧ ∀ (ρ : Names) (Φ : Nat → Prop) (a : Act) (w : World), Sat ρ Φ st1 a w → Sat ρ Φ st' a w := by
  unfold meetD at h
  split at h
  · rename_i hc
    simp only [Bool.and_eq_true] at hc
    split at h
    · rename_i n ls hm
      obtain ⟨hn, h1⟩ := needO_run h
      simp only [Tree.run, Option.some.injEq] at h1; subst h1
      obtain ⟨tm, h2, h3⟩ := mergeT_run hm hn
      obtain ⟨h6, h7, h8⟩ := segsP_run h2
      refine ⟨false, ⟨tm, st.heap ++ List.replicate (padOf (cutsOf 0 0 (allBef (bef ops.toList []))) ops.toList.length) none⟩, ?_, fun ρ Φ a w hs => hs.merged h7 (fun t ht => ?_) h3 (mergeT_len hm)⟩
      · unfold drawnE
        simp only [hc.2]
        exact h6
      · exact h8 t (not_dst ht)
    · exact ⟨true, st', h, fun _ _ _ _ h => h⟩
  · exact ⟨true, st', h, fun _ _ _ _ h => h⟩
theorem meetD_good (hm : P.follows .mixedOrders = true) (hcall : GoodCall P call) (hE : GoodEnv P E) : GoodDrawn P (meetD T E call) := by
  intro ops id ρ Φ w st a st' Q hs h hQ
  obtain ⟨sq, st1, h1, h2⟩ := meetD_run h
  exact drawnE_good hm hcall hE ops id ρ Φ w st a st1 Q hs h1 (fun ρ' Φ' a' w' g hs' hf => hQ ρ' Φ' a' w' g (h2 _ _ _ _ hs') hf)

/-! ### A function, whole -/

/-- The calls of a program. -/
def callF (T : Tab) (E : Env) (rounds depth : Nat) : CallE := callE T E (meetD T E) rounds depth

theorem callF_good (hm : P.follows .mixedOrders = true) (hE : GoodEnv P E) (rounds depth : Nat) : GoodCall P (callF T E rounds depth) :=
  callE_good hE (fun c hc => meetD_good hm hc hE) rounds depth

/-- A piece of code of a function, by its run. -/
theorem execF_good (hm : P.follows .mixedOrders = true) (hE : GoodEnv P E) (rounds depth : Nat) {f : FuncId} {fn : Func} {c : Code} (hfn : P.funcs[f]? = some fn) (hc : fn.body = some c) {i : Nat} {body : Code} (hi : loopAt c i = some body)
    (hL : ∀ j x run, loopAt body j = some x → E.loops f (i + 1 + j) = some run → GoodCode P (.loop x) run) :
    GoodCode P body (execE T E (callF T E rounds depth) (meetD T E (callF T E rounds depth)) (E.loops f) rounds body (i + 1)) :=
  execE_good (callF_good hm hE rounds depth) hE (meetD_good hm (callF_good hm hE rounds depth) hE) rounds body (i + 1) hL
end
end Go.Sy
