/-
  Names turned into others ('ren'); what a call does beside a small heap it does beside a great one ('CallOK.lift', 'CallOK.borrow').
  No statement of the seat is proved here. Conditions: none.
-/
import Derived.Test.YtmokkonnilmdfaaY17
set_option linter.unusedSimpArgs false
set_option linter.unusedVariables false
namespace Go.Sy
open Go.RowKit

mutual
/-- Other names. -/
def SV.ren (f : Nat → Nat) : SV → SV
  | .ref b off => .ref (f b) off
  | .rref b sz i off => .rref (f b) sz i off
  | .sl b off len cap => .sl (f b) off len cap
  | .own b => .own (f b)
  | .osl b sz lo hi => .osl (f b) sz lo hi
  | .cut b sz lo hi => .cut (f b) sz lo hi
  | .emp nl => .emp nl
  | .any => .any
  | .mp b => .mp (f b)
  | .agg cs => .agg (SV.renL f cs)
  | .tup vs => .tup (SV.renL f vs)
  | .clo fn first caps => .clo fn (SV.renL f first) (SV.renL f caps)
  | .li k n => .li k n
  | .si k n => .si k n
  | .lb b => .lb b
  | .sb b => .sb b
  | .str s => .str s
  | .val v => .val v
  | .lref e xs i off => .lref e xs i off
  | .lst e nl xs => .lst e nl xs
def SV.renL (f : Nat → Nat) : List SV → List SV
  | [] => []
  | c :: r => SV.ren f c :: SV.renL f r
end
def Con.ren (f : Nat → Nat) : Con → Con
  | .cells cs => .cells (SV.renL f cs)
  | .rows e nl xs => .rows e nl xs
  | .mapc k v es => .mapc k v es
def Blk.ren (f : Nat → Nat) (b : Blk) : Blk := ⟨b.con.ren f, b.ty, b.ro⟩
def renO (f : Nat → Nat) : Option Blk → Option Blk
  | some b => some (b.ren f)
  | none => none

section
variable {ρ : Names} {Φ : Nat → Prop} {w : World}
mutual
theorem den_ren (f : Nat → Nat) : ∀ {v : SV} {x : Value}, Den ρ Φ w (v.ren f) x ↔ Den (fun k => ρ (f k)) Φ w v x
  | .ref .., x | .rref .., x | .sl .., x | .own _, x | .mp _, x | .li .., x | .si .., x | .lb _, x | .sb _, x | .str _, x | .val _, x | .lref .., x | .lst .., x | .osl .., x | .cut .., x | .emp _, x | .any, x => by simp [SV.ren, Den]
  | .agg cs, x => by simp only [SV.ren, Den, denL_ren f]
  | .tup cs, x => by simp only [SV.ren, Den, denL_ren f]
  | .clo fn first caps, x => by simp only [SV.ren, Den, denL_ren f]
theorem denL_ren (f : Nat → Nat) : ∀ {l : List SV} {vs : List Value}, DenL ρ Φ w (SV.renL f l) vs ↔ DenL (fun k => ρ (f k)) Φ w l vs
  | [], vs => by simp [SV.renL, DenL]
  | c :: r, vs => by simp only [SV.renL, DenL, den_ren f, denL_ren f]
end
theorem blk_ren (f : Nat → Nat) {m : Nm} {b : Blk} : BlkOK ρ Φ w m (b.ren f) ↔ BlkOK (fun k => ρ (f k)) Φ w m b := by
  obtain ⟨con, ty, ro⟩ := b
  cases con with
  | cells cs => simp only [Blk.ren, Con.ren, BlkOK, denL_ren f]
  | rows e nl xs => simp only [Blk.ren, Con.ren, BlkOK]
  | mapc k v es => simp only [Blk.ren, Con.ren, BlkOK]
end

/-- The great names of the small ones: those of 's'; the others behind 'n'. -/
def great (s : List Nat) (n : Nat) (k : Nat) : Nat := match s[k]? with
  | some g => g
  | none => n + (k - s.length)
def setAll : Hp → List Nat → Hp → Hp
  | H, [], _ => H
  | H, g :: s, Hs => setAll (H.set g (Hs.headD none)) s Hs.tail
/-- The great heap behind a call. -/
def mergeH (H : Hp) (s : List Nat) (Hs : Hp) : Hp := setAll H s (Hs.map (renO (great s H.length))) ++ (Hs.drop s.length).map (renO (great s H.length))

theorem great_lt {s : List Nat} {n k : Nat} (h : k < s.length) : great s n k = s[k] := by simp [great, List.getElem?_eq_getElem h]
theorem great_ge {s : List Nat} {n k : Nat} (h : s.length ≤ k) : great s n k = n + (k - s.length) := by simp [great, List.getElem?_eq_none h]

theorem setAll_length : ∀ (s : List Nat) (H Hs : Hp), (setAll H s Hs).length = H.length
  | [], H, Hs => rfl
  | g :: s, H, Hs => by rw [setAll, setAll_length s]; simp
theorem setAll_get : ∀ (s : List Nat) (H Hs : Hp) (k : Nat), s.Nodup → k < H.length → (setAll H s Hs)[k]? = match s.idxOf? k with
    | some j => some (Hs.getD j none)
    | none => H[k]?
  | [], H, Hs, k, _, _ => by simp [setAll]
  | g :: s, H, Hs, k, hn, hk => by
    rw [List.nodup_cons] at hn
    rw [setAll, setAll_get s _ _ k hn.2 (by simpa using hk)]
    rw [List.idxOf?_cons]
    by_cases hg : g = k
    · subst hg
      have : s.idxOf? g = none := by simpa using hn.1
      simp only [this, beq_self_eq_true, if_true]
      rw [List.getElem?_set]
      simp only [hk, if_true]
      cases Hs <;> simp
    · have : (g == k) = false := by simpa using hg
      simp only [this, Bool.false_eq_true, if_false]
      cases hi : s.idxOf? k with
      | none => simp [List.getElem?_set, hg]
      | some j =>
        simp only [Option.map_some]
        cases Hs with
        | nil => simp
        | cons a r => simp

theorem idxOf?_some {s : List Nat} {k j : Nat} (h : s.idxOf? k = some j) : j < s.length ∧ s[j]? = some k := by
  have h' : s.findIdx? (· == k) = some j := h
  rw [List.findIdx?_eq_some_iff_getElem] at h'
  obtain ⟨h1, h2, _⟩ := h'
  exact ⟨h1, by rw [List.getElem?_eq_getElem h1]; simpa using h2⟩

theorem mergeH_get {H : Hp} {s : List Nat} {Hs : Hp} (hn : s.Nodup) {k : Nat} {b : Blk} (h : hget (mergeH H s Hs) k = some b) :
    (∃ j b0, j < s.length ∧ s[j]? = some k ∧ k < H.length ∧ hget Hs j = some b0 ∧ b = b0.ren (great s H.length)) ∨ (k < H.length ∧ k ∉ s ∧ hget H k = some b) ∨
      (∃ b0, H.length ≤ k ∧ hget Hs (s.length + (k - H.length)) = some b0 ∧ b = b0.ren (great s H.length)) := by
  rw [hget_iff] at h
  unfold mergeH at h
  rcases Nat.lt_or_ge k H.length with hlt | hge
  · rw [List.getElem?_append_left (by rw [setAll_length]; exact hlt), setAll_get s _ _ k hn hlt] at h
    cases hi : s.idxOf? k with
    | some j =>
      rw [hi] at h
      obtain ⟨h1, h2⟩ := idxOf?_some hi
      simp only [List.getD_eq_getElem?_getD, List.getElem?_map] at h
      cases hj : Hs[j]? with
      | none => rw [hj] at h; simp at h
      | some o =>
        rw [hj] at h
        cases o with
        | none => simp [renO] at h
        | some b0 =>
          simp only [Option.map_some, Option.getD_some, renO, Option.some.injEq] at h
          exact .inl ⟨j, b0, h1, h2, hlt, hget_iff.2 hj, h.symm⟩
    | none =>
      rw [hi] at h
      exact .inr (.inl ⟨hlt, by simpa using hi, hget_iff.2 h⟩)
  · rw [List.getElem?_append_right (by rw [setAll_length]; exact hge), setAll_length, List.getElem?_map, List.getElem?_drop] at h
    cases hj : Hs[s.length + (k - H.length)]? with
    | none => rw [hj] at h; simp at h
    | some o =>
      rw [hj] at h
      cases o with
      | none => simp [renO] at h
      | some b0 =>
        simp only [Option.map_some, renO, Option.some.injEq] at h
        exact .inr (.inr ⟨b0, hge, hget_iff.2 hj, h.symm⟩)
theorem mergeH_length {H : Hp} {s : List Nat} {Hs : Hp} : (mergeH H s Hs).length = H.length + (Hs.length - s.length) := by simp [mergeH, setAll_length]

section
variable {P : Program} {ρ ρ' : Names} {H : Hp} {Φ Φ' : Nat → Prop} {w w' : World}

/-- The names behind a call, out of the small ones. -/
def back (ρ : Names) (s : List Nat) (n : Nat) (ρs : Names) : Names := fun k => if k < n then ρ k else ρs (s.length + (k - n))

theorem back_great {s : List Nat} {ρs : Names} (hr : Rel ρ H Φ w) (hlive : ∀ (j g : Nat), s[j]? = some g → ∃ b, hget H g = some b) (hn : ∀ k m, ρ (great s H.length k) = some m → ρs k = some m) : ∀ k, back ρ s H.length ρs (great s H.length k) = ρs k := by
  intro k
  rcases Nat.lt_or_ge k s.length with hlt | hge
  · have hk := great_lt (n := H.length) hlt
    obtain ⟨b, hb⟩ := hlive k s[k] (List.getElem?_eq_getElem hlt)
    obtain ⟨m, hm, _⟩ := hr.own _ _ hb
    unfold back
    rw [hk, if_pos (hget_lt hb), hm]
    exact (hn k m (by rw [hk]; exact hm)).symm
  · unfold back
    rw [great_ge hge, if_neg (by omega)]
    congr 1; omega

/-- No block of the others is named by the small ones. -/
theorem not_small {s : List Nat} (hr : Rel ρ H Φ w) (hlive : ∀ (j g : Nat), s[j]? = some g → ∃ b, hget H g = some b) {k : Nat} {b : Blk} {m : Nm} {q : Nat} (hk : hget H k = some b) (hks : k ∉ s) (hro : b.ro = false) (hm : ρ k = some m) (hq : m.block = some q) :
    ¬ Named (fun k => ρ (great s H.length k)) q := by
  rintro ⟨j, m', hj, hm'⟩
  rcases Nat.lt_or_ge j s.length with hlt | hge
  · simp only [great_lt (n := H.length) hlt] at hj
    obtain ⟨b', hb'⟩ := hlive j s[j] (List.getElem?_eq_getElem hlt)
    cases hro' : b'.ro with
    | true => exact hr.apart k b m q hk hm hq hro (hr.kept _ b' m' q hb' hj hm' hro')
    | false =>
      have := hr.inj k s[j] b b' m m' q hk hb' hro hro' hm hj hq hm'
      exact hks (this ▸ List.getElem_mem hlt)
  · simp only [great_ge hge] at hj
    have := hr.dom _ _ hj
    omega

theorem lift_grow {s : List Nat} {ρs : Names} (hr : Rel ρ H Φ w) (g : Grow (fun k => ρ (great s H.length k)) Φ w ρs Φ' w') : Grow ρ Φ w (back ρ s H.length ρs) Φ' w' := by
  have up : ∀ q, Named (fun k => ρ (great s H.length k)) q → Named ρ q := fun q ⟨k, m, hk, hm⟩ => ⟨_, m, hk, hm⟩
  refine ⟨⟨fun k m hk => ?_, g.phi, g.ext⟩, fun q hq => (g.back q hq).imp id (fun h => h.imp id (up q)), ?_, fun k hk hn => g.frame k hk (fun h => hn (up k h))⟩
  · have := hr.dom k m hk
    unfold back; rw [if_pos this]; exact hk
  · rintro q ⟨k, m, hk, hm⟩
    unfold back at hk
    split at hk
    · exact .inr ⟨k, m, hk, hm⟩
    · exact (g.fresh q ⟨_, m, hk, hm⟩).imp id (up q)

/-- What was said beside the small heap, beside the great one. -/
theorem lift_rel {s : List Nat} {ρs : Names} {Hs' : Hp} (hr : Rel ρ H Φ w) (hn : s.Nodup) (hlive : ∀ (j g : Nat), s[j]? = some g → ∃ b, hget H g = some b)
    (hr' : Rel ρs Hs' Φ' w') (g : Grow (fun k => ρ (great s H.length k)) Φ w ρs Φ' w') : Rel (back ρ s H.length ρs) (mergeH H s Hs') Φ' w' := by
  have hbg := back_great (s := s) (ρs := ρs) hr hlive g.names
  have gb := lift_grow hr g
  have small : ∀ j b0 k, k = great s H.length j → hget Hs' j = some b0 → ∃ m, ρs j = some m ∧ back ρ s H.length ρs k = some m ∧ BlkOK (back ρ s H.length ρs) Φ' w' m (b0.ren (great s H.length)) := by
    rintro j b0 k rfl hj
    obtain ⟨m, hm, hok⟩ := hr'.own j b0 hj
    refine ⟨m, hm, by rw [hbg]; exact hm, ?_⟩
    rw [blk_ren]
    have e : (fun k => back ρ s H.length ρs (great s H.length k)) = ρs := funext hbg
    rw [e]; exact hok
  have at1 : ∀ {j k : Nat}, j < s.length → s[j]? = some k → k = great s H.length j := by
    intro j k hj hk
    rw [great_lt hj]; rw [List.getElem?_eq_getElem hj] at hk; simpa using hk.symm
  have at3 : ∀ {k : Nat}, H.length ≤ k → k = great s H.length (s.length + (k - H.length)) := by
    intro k hk
    rw [great_ge (by omega)]; omega
  have one : ∀ k b, hget (mergeH H s Hs') k = some b → (∃ j b0, k = great s H.length j ∧ hget Hs' j = some b0 ∧ b = b0.ren (great s H.length)) ∨ (k ∉ s ∧ hget H k = some b) := by
    intro k b hk
    rcases mergeH_get hn hk with ⟨j, b0, h1, h2, _, h3, h4⟩ | ⟨_, h1, h2⟩ | ⟨b0, h1, h2, h3⟩
    · exact .inl ⟨j, b0, at1 h1 h2, h3, h4⟩
    · exact .inr ⟨h1, h2⟩
    · exact .inl ⟨_, b0, at3 h1, h2, h3⟩
  have old : ∀ k b, hget H k = some b → back ρ s H.length ρs k = ρ k := by
    intro k b hk
    unfold back; rw [if_pos (hget_lt hk)]
  have mis : ∀ k b m q, hget H k = some b → k ∉ s → b.ro = false → ρ k = some m → m.block = some q → ∀ j b0 m', hget Hs' j = some b0 → ρs j = some m' → m'.block ≠ some q := by
    intro k b m q hk hks hro hm hq j b0 m' hj hm' hq'
    rcases g.fresh q ⟨j, m', hm', hq'⟩ with h1 | h1
    · have := hr.lt hk hm hq; omega
    · exact not_small hr hlive hk hks hro hm hq h1
  refine ⟨?_, ?_, ?_, ?_, hr'.phi, ?_⟩
  · intro k b hk
    rcases one k b hk with ⟨j, b0, rfl, h3, rfl⟩ | ⟨h1, h2⟩
    · obtain ⟨m, h5, h6, h7⟩ := small j b0 _ rfl h3
      exact ⟨m, h6, h7⟩
    · obtain ⟨m, hm, hok⟩ := hr.own k b h2
      refine ⟨m, by rw [old k b h2]; exact hm, hok.mono gb (fun q hq => ?_)⟩
      cases hro : b.ro with
      | true => exact g.ext.block q (hr.kept k b m q h2 hm hq hro)
      | false => exact g.frame q (hr.lt h2 hm hq) (not_small hr hlive h2 h1 hro hm hq)
  · intro k b m q hk hm hq hro
    rcases one k b hk with ⟨j, b0, rfl, h3, rfl⟩ | ⟨h1, h2⟩
    · rw [hbg] at hm
      exact hr'.apart j b0 m q h3 hm hq hro
    · rw [old k b h2] at hm
      intro hp
      rcases g.back q hp with h4 | h4 | h4
      · exact hr.apart k b m q h2 hm hq hro h4
      · have := hr.lt h2 hm hq; omega
      · exact not_small hr hlive h2 h1 hro hm hq h4
  · intro k b m q hk hm hq hro
    rcases one k b hk with ⟨j, b0, rfl, h3, rfl⟩ | ⟨h1, h2⟩
    · rw [hbg] at hm
      exact hr'.kept j b0 m q h3 hm hq hro
    · rw [old k b h2] at hm
      exact g.phi q (hr.kept k b m q h2 hm hq hro)
  · intro k k' b b' m m' q hk hk' hro hro' hm hm' hq hq'
    rcases one k b hk with ⟨j, b0, rfl, h3, rfl⟩ | ⟨h1, h2⟩ <;> rcases one k' b' hk' with ⟨j', b0', rfl, h3', rfl⟩ | ⟨h1', h2'⟩
    · rw [hbg] at hm hm'
      rw [hr'.inj j j' b0 b0' m m' q h3 h3' hro hro' hm hm' hq hq']
    · rw [hbg] at hm
      rw [old k' b' h2'] at hm'
      exact (mis k' b' m' q h2' h1' hro' hm' hq' j b0 m h3 hm hq).elim
    · rw [hbg] at hm'
      rw [old k b h2] at hm
      exact (mis k b m q h2 h1 hro hm hq j' b0' m' h3' hm' hq').elim
    · rw [old k b h2] at hm
      rw [old k' b' h2'] at hm'
      exact hr.inj k k' b b' m m' q h2 h2' hro hro' hm hm' hq hq'
  · intro k m hm
    rw [mergeH_length]
    unfold back at hm
    split at hm
    · omega
    · have := hr'.dom _ _ hm; omega

/-- What a call does beside a small heap it does beside a great one. -/
theorem CallOK.lift {f : FuncId} {as : List SV} {Hs : Hp} {r : SV} {Hs' : Hp} (h : CallOK P f as Hs r Hs') {s : List Nat} (hr : Rel ρ H Φ w) (hn : s.Nodup) (hlive : ∀ (j g : Nat), s[j]? = some g → ∃ b, hget H g = some b)
    (hs : Rel (fun k => ρ (great s H.length k)) Hs Φ w) {vs : List Value} (ha : DenL (fun k => ρ (great s H.length k)) Φ w as vs) :
    Calls P f vs.toArray w fun e w' => ∃ v ρ' Φ', e = .returned v ∧ Den ρ' Φ' w' (r.ren (great s H.length)) v ∧ Rel ρ' (mergeH H s Hs') Φ' w' ∧ Grow ρ Φ w ρ' Φ' w' := by
  refine (h _ Φ w vs hs ha).mono ?_
  rintro e w' ⟨v, ρs, Φ', rfl, hd, hr', g⟩
  refine ⟨v, back ρ s H.length ρs, Φ', rfl, ?_, lift_rel hr hn hlive hr' g, lift_grow hr g⟩
  rw [den_ren]
  have e : (fun k => back ρ s H.length ρs (great s H.length k)) = ρs := funext (back_great hr hlive g.names)
  rw [e]; exact hd
end
end Go.Sy
