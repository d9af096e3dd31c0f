/-
  slices.Insert of one, as a contract of an own list ('insertCt'), out of its walk ('InsOK').
  No statement of the seat is proved here. Conditions: none.
-/
import Derived.Test.YtmokkonnilmdfaaY25
set_option linter.unusedSimpArgs false
set_option linter.unusedVariables false
namespace Go.Sy
open Go.RowKit

/-- What the function's walk has shown. -/
structure InsOK (P : Program) (f : FuncId) (t u : TypeId) (sz by_ : Nat) : Prop where
  enters : Enters P f
  shift : ∀ (g o n c i vb voff vc : Nat) (cur cur1 cur2 : Array Value) (t' : TypeId) (cs vs : List Value) (w : World), i < n → n + 1 ≤ c → c ≤ 9223372036854775807 → vb ≠ g →
    w.heap[g]? = some (.cells cur t' (0, 0)) → o + c * sz ≤ cur.size → cs = (cur.toList.drop (o + i * sz)).take ((n - i) * sz) → vs.length = sz → (∀ v ∈ cs, v.oneCell' = true) → (∀ v ∈ vs, v.oneCell' = true) →
    cur1 = (cur.toList.take (o + (i + 1) * sz) ++ cs ++ cur.toList.drop (o + (i + 1) * sz + cs.length)).toArray → cur2 = (cur1.toList.take (o + i * sz) ++ vs ++ cur1.toList.drop (o + i * sz + vs.length)).toArray →
    (∀ j v, vs[j]? = some v → w.cell? ⟨vb, voff + j, none⟩ = some v) → ∀ (tA tB : TypeId) (kA kB : Nat), w.shape? vb = some (tA, kA) → w.shape? g = some (tB, kB) → kB ≠ 0 → w.frozen? ⟨vb, voff, none⟩ = false → w.frozen? ⟨vb, kA, none⟩ = false →
    Calls P f #[.slice (some ⟨g, o, none⟩) n c, .int .i64 i, .slice (some ⟨vb, voff, none⟩) 1 vc] w fun e w' =>
      e = .returned (.slice (some ⟨g, o, none⟩) (n + 1) c) ∧ w' = (w.drew.setRow g cur1).setRow g cur2
  grow : ∀ (g o n c i vb voff vc : Nat) (cur : Array Value) (t' : TypeId) (bs cs vs : List Value) (w : World), i < n → n ≤ c → c < n + 1 → (n + 1) * by_ ≤ 140737488355328 → n + 1 ≤ 4611686018427387904 →
    w.heap[g]? = some (.cells cur t' (0, 0)) → o + n * sz ≤ cur.size → bs = (cur.toList.drop o).take (i * sz) → cs = (cur.toList.drop (o + i * sz)).take ((n - i) * sz) → vs.length = sz → (∀ v ∈ cs, v.oneCell' = true) → (∀ v ∈ vs, v.oneCell' = true) →
    (∀ j v, vs[j]? = some v → w.cell? ⟨vb, voff + j, none⟩ = some v) → vb < w.heap.size →
    Calls P f #[.slice (some ⟨g, o, none⟩) n c, .int .i64 i, .slice (some ⟨vb, voff, none⟩) 1 vc] w fun e w' =>
      ∃ (G : Nat) (zs : List Value), n + 1 ≤ G ∧ G ≤ maxLen ∧ zs.length = (G - (n + 1)) * sz ∧ e = .returned (.slice (some ⟨w.heap.size, 0, none⟩) (n + 1) G) ∧
        w'.heap = w.heap.push (.cells (bs ++ vs ++ cs ++ zs).toArray u) ∧ w'.os = w.os ∧ w'.tape = w.tape ∧ w'.output = w.output
  ends : ∀ (base : Option Addr) (n c : Nat), (base = none → n = 0 ∧ c = 0) → n ≤ c → c ≤ 9223372036854775807 → ∀ (vb voff vc : Nat) (w : World) {r0 : Value} {w1 : World},
    (Builtin.append_ #[t, t] t #[.slice base n c, .slice (some ⟨vb, voff, none⟩) 1 vc]).run P w = .ok r0 w1 → (∃ a n c, r0 = .slice a n c) →
    Calls P f #[.slice base n c, .int .i64 n, .slice (some ⟨vb, voff, none⟩) 1 vc] w fun e w' => e = .returned r0 ∧ w' = w1

def insView (T : Tab) (u : TypeId) (e : Sh) (by_ : Nat) (n : Int) (y : D) (H1 : Hp) (b : Nat) (lo : Nat) (hi : Option Nat) : Option (Tree (SV × Hp)) :=
  match hget H1 b with
  | some ⟨.rows e' nl xs, u', false⟩ => match Sh.beq e e' && Nat.beq u u' with
    | true => some (.need (decide (0 ≤ n) && (decide (n ≤ ((hi.getD xs.length - lo : Nat) : Int)) && roomFor (hi.getD xs.length - lo + 1) by_)) (.ret (.own H1.length, H1.set b none ++ [some ⟨.rows e false (((xs.take (hi.getD xs.length)).drop lo).take n.toNat ++ [y] ++ ((xs.take (hi.getD xs.length)).drop lo).drop n.toNat), u, false⟩])))
    | false => none
  | _ => none
/-- Into an own list, or into one without room. -/
def insertSpec (T : Tab) (t u : TypeId) (sz by_ : Nat) : CSpec := fun args H => match args with
  | [s, iv, .sl vb voff 1 vc] => match shT T 20 u, bytesT T u, zeroL T u, iv.int? with
    | some e, some by', some z, some (k, n) => match rowT T t e with
      | some ut => match Nat.beq ut u && Nat.beq z.length e.size && (!(Nat.beq e.size 0) && (e.fine && (Nat.beq e.size sz && (Nat.beq by' by_ && kbeq k .i64)))) with
        | true => match freeze (.list e) (.sl vb voff 1 vc) H with
          | some (.l _ [y], H1) => match s with
            | .own b => insView T u e by_ n y H1 b 0 none
            | .osl b sz' lo hi => match Nat.beq sz' e.size with
              | true => insView T u e by_ n y H1 b lo (some hi)
              | false => none
            | .emp _ => some (.need (n == 0 && roomFor 1 by_) (.ret (.own H1.length, H1 ++ [some ⟨.rows e false [y], u, false⟩])))
            | .val (.slice none 0 0) => some (.need (n == 0 && roomFor 1 by_) (.ret (.own H1.length, H1 ++ [some ⟨.rows e false [y], u, false⟩])))
            | _ => none
          | _ => none
        | false => none
      | none => none
    | _, _, _, _ => none
  | _ => none

section
variable {P : Program} {T : Tab} [GoodTab P T] {ρ : Names} {Φ : Nat → Prop} {w : World}

theorem insert_view {f : FuncId} {e : Sh} {xs : List D} {y : D} {t u : TypeId} {i : TypeInfo} {z : Value} {H1 : Hp} {fl : List Value} {gv voff vc b g o c lo hi off n : Nat} {cur vcur : Array Value} {tv : TypeId} {nl : Bool}
    (ok : InsOK P f t u e.size i.bytes) (q1 : Rel ρ H1 Φ w) (ht : RowTy P t u e i z) (hs : Src Φ w e [y] (some ⟨gv, voff, none⟩) fl) (hgv : w.heap[gv]? = some (.cells vcur tv (0, 0))) (hne : gv ≠ g)
    (hb : hget H1 b = some ⟨.rows e nl xs, u, false⟩) (hm : ρ b = some (.row g o xs.length c))
    (h2 : xs.length ≤ c) (h3 : c ≤ maxLen) (h4 : w.heap[g]? = some (.cells cur u (0, 0))) (h5 : o + c * e.size ≤ cur.size) (h6 : RowsP (fun d v => DenD Φ w e d v) e.isAgg e.size xs ((cur.toList.drop o).take (xs.length * e.size)))
    (l1 : lo ≤ hi) (l2 : hi ≤ xs.length) (hoff : lo < c → off = o + lo * e.size) (hn : n ≤ hi - lo)
    (room1 : (hi - lo + 1) * i.bytes ≤ 140737488355328) (room2 : hi - lo + 1 ≤ 4611686018427387904) :
    Calls P f #[.slice (some ⟨g, off, none⟩) (hi - lo) (c - lo), .int .i64 n, .slice (some ⟨gv, voff, none⟩) 1 vc] w fun e' w' => ∃ r0 m, e' = .returned r0 ∧ Den (named ρ H1.length m) Φ w' (.own H1.length) r0 ∧
      Rel (named ρ H1.length m) (H1.set b none ++ [some ⟨.rows e false (((xs.take hi).drop lo).take n ++ [y] ++ ((xs.take hi).drop lo).drop n), u, false⟩]) Φ w' ∧ Grow ρ Φ w (named ρ H1.length m) Φ w' := by
  have hXl : ((xs.take hi).drop lo).length = hi - lo := by simp; omega
  have hcm : c ≤ 9223372036854775807 := by unfold maxLen at h3; omega
  rcases Nat.lt_or_ge n (hi - lo) with hlt | hge
  · have hlc : lo < c := by omega
    have e1 := hoff hlc
    have hblt := hget_lt hb
    have qk := q1.kill b
    have hlen : H1.length = (H1.set b none).length := by simp
    have hgk : ∀ k c, hget (H1.set b none) k = some c → k ≠ b ∧ hget H1 k = some c := by
      intro k c hk
      rw [hget_set hblt] at hk
      split at hk
      · cases hk
      · rename_i hne; exact ⟨fun e => hne e.symm, hk⟩
    have hap := q1.apart _ _ _ _ hb hm rfl rfl
    have hglt := q1.lt hb hm rfl
    have hfree : ∀ k c m', hget (H1.set b none) k = some c → c.ro = false → ρ k = some m' → m'.block ≠ some g := by
      intro k c' m' hk hro hm' e
      obtain ⟨hne, hk'⟩ := hgk k c' hk
      exact hne (q1.inj k b c' _ m' _ g hk' hb hro rfl hm' hm e rfl)
    have hold1 : ∀ k c m q, hget (H1.set b none) k = some c → ρ k = some m → m.block = some q → q ≠ g := by
      intro k c' m' q hk hm' hq e
      subst e
      obtain ⟨hne, hk'⟩ := hgk k c' hk
      cases hro : c'.ro with
      | false => exact hfree k c' m' hk hro hm' hq
      | true => exact hap (q1.kept k c' m' q hk' hm' hq hro)
    have h6v : RowsP (fun d v => DenD Φ w e d v) e.isAgg e.size ((xs.take hi).drop lo) ((cur.toList.drop off).take ((hi - lo) * e.size)) := by
      have := (h6.take hi).drop lo
      rw [view_cells l1 l2, ← e1] at this
      exact this
    have hcsz : c * e.size = lo * e.size + (c - lo) * e.size := by rw [← Nat.add_mul]; congr 1; omega
    have hNC : (hi - lo) * e.size ≤ (c - lo) * e.size := Nat.mul_le_mul_right _ (by omega)
    have hnN : (hi - lo) * e.size = n * e.size + (hi - lo - n) * e.size := by rw [← Nat.add_mul]; congr 1; omega
    have hn1 : (n + 1) * e.size = n * e.size + e.size := by rw [Nat.add_mul, Nat.one_mul]
    have hcl : off + (c - lo) * e.size ≤ cur.toList.length := by rw [Array.length_toList, e1]; rw [hcsz] at h5; omega
    have hcs0 : off + (c - lo) * e.size ≤ cur.size := by rw [Array.length_toList] at hcl; exact hcl
    -- the two parts
    obtain ⟨bs, hbs⟩ : ∃ bs : List Value, bs = (cur.toList.drop off).take (n * e.size) := ⟨_, rfl⟩
    obtain ⟨cs, hcs⟩ : ∃ cs : List Value, cs = (cur.toList.drop (off + n * e.size)).take ((hi - lo - n) * e.size) := ⟨_, rfl⟩
    have hbl : bs.length = n * e.size := by rw [hbs, List.length_take, List.length_drop]; omega
    have hcll : cs.length = (hi - lo - n) * e.size := by rw [hcs, List.length_take, List.length_drop]; omega
    have rb : RowsP (fun d v => DenD Φ w e d v) e.isAgg e.size (((xs.take hi).drop lo).take n) bs := by
      have := h6v.take n
      rw [List.take_take, Nat.min_eq_left (by omega), ← hbs] at this
      exact this
    have rc : RowsP (fun d v => DenD Φ w e d v) e.isAgg e.size (((xs.take hi).drop lo).drop n) cs := by
      have := h6v.drop n
      have e3 : ((cur.toList.drop off).take ((hi - lo) * e.size)).drop (n * e.size) = cs := by
        rw [List.drop_take, List.drop_drop, show (hi - lo) * e.size - n * e.size = (hi - lo - n) * e.size by omega, ← hcs]
      rw [e3] at this
      exact this
    have hfl := hs.rows.length
    simp only [List.length_singleton, Nat.one_mul] at hfl
    have h1c : ∀ v ∈ cs, v.oneCell' = true := fun v hv => by rw [oneCell_of]; exact rows_one ht.fine rc v hv
    have h1v : ∀ v ∈ fl, v.oneCell' = true := fun v hv => by rw [oneCell_of]; exact rows_one ht.fine hs.rows v hv
    have hvs : ∀ j v, fl[j]? = some v → w.cell? ⟨gv, voff + j, none⟩ = some v := fun j v hj => by
      have := hs.cells _ rfl j v hj
      rwa [addr_add] at this
    have hvlt : gv < w.heap.size := (Array.getElem?_eq_some_iff.1 hgv).1
    have hX : (((xs.take hi).drop lo).take n ++ [y] ++ ((xs.take hi).drop lo).drop n).length = hi - lo + 1 := by simp only [List.length_append, List.length_take, List.length_drop, hXl, List.length_singleton]; omega
    by_cases hroom : hi - lo + 1 ≤ c - lo
    · have hNC1 : (hi - lo + 1) * e.size ≤ (c - lo) * e.size := Nat.mul_le_mul_right _ hroom
      rw [Nat.add_mul, Nat.one_mul] at hNC1
      obtain ⟨cur1, hcur1⟩ : ∃ cur1 : Array Value, cur1 = (cur.toList.take (off + (n + 1) * e.size) ++ cs ++ cur.toList.drop (off + (n + 1) * e.size + cs.length)).toArray := ⟨_, rfl⟩
      obtain ⟨cur2, hcur2⟩ : ∃ cur2 : Array Value, cur2 = (cur1.toList.take (off + n * e.size) ++ fl ++ cur1.toList.drop (off + n * e.size + fl.length)).toArray := ⟨_, rfl⟩
      have hc2 : cur2.toList = cur.toList.take off ++ (bs ++ fl ++ cs) ++ cur.toList.drop (off + (hi - lo + 1) * e.size) := by
        have a1 : cur1.toList.take (off + n * e.size) = cur.toList.take off ++ bs := by
          rw [hcur1]
          simp only [List.toList_toArray, List.append_assoc]
          rw [List.take_append_of_le_length (by rw [List.length_take]; omega), List.take_take, Nat.min_eq_left (by omega), hbs, ← List.take_add]
        have a2 : cur1.toList.drop (off + n * e.size + fl.length) = cs ++ cur.toList.drop (off + (hi - lo + 1) * e.size) := by
          rw [hcur1, hfl, hcll, show off + n * e.size + e.size = (cur.toList.take (off + (n + 1) * e.size)).length by rw [List.length_take]; omega]
          simp only [List.toList_toArray, List.append_assoc]
          rw [List.drop_left, show off + (n + 1) * e.size + (hi - lo - n) * e.size = off + (hi - lo + 1) * e.size by rw [Nat.add_mul (hi - lo), Nat.one_mul, hnN]; omega]
        rw [hcur2]
        simp only [List.toList_toArray]
        rw [a1, a2]
        simp only [List.append_assoc]
      have hsz2 : cur2.size = cur.size := by
        have := congrArg List.length hc2
        simp only [Array.length_toList, List.length_append, List.length_take, List.length_drop, hbl, hfl, hcll] at this
        rw [this, Nat.add_mul (hi - lo), Nat.one_mul]
        omega
      have htake : (cur2.toList.drop off).take ((hi - lo + 1) * e.size) = bs ++ fl ++ cs := by
        have hto : (cur.toList.take off).length = off := by rw [List.length_take]; omega
        rw [hc2, List.append_assoc, List.drop_left' hto]
        have : (bs ++ fl ++ cs).length = (hi - lo + 1) * e.size := by simp only [List.length_append, hbl, hfl, hcll]; rw [Nat.add_mul (hi - lo), Nat.one_mul, hnN]; omega
        rw [← this]; exact List.take_left
      have hkB : cur.size ≠ 0 := by
        have := ht.pos
        omega
      refine (ok.shift g off (hi - lo) (c - lo) n gv voff vc cur cur1 cur2 u cs fl w hlt hroom (by omega) hne h4 hcs0 hcs hfl h1c h1v hcur1 hcur2 hvs tv u vcur.size cur.size
        (by simp [World.shape?, hgv]) (by simp [World.shape?, h4]) hkB (by simp [World.frozen?, hgv]) (by simp [World.frozen?, hgv])).mono ?_
      rintro e' w' ⟨rfl, rfl⟩
      have heq : ((w.drew.setRow g cur1).setRow g cur2) = w.drew.setRow g cur2 := setRow_setRow _ _ _ _
      rw [heq]
      have he : Ext Φ w (w.drew.setRow g cur2) := ⟨rfl, rfl, rfl, Nat.le_of_eq (by unfold World.setRow; exact (Array.size_modify ..).symm), fun k hk => setRow_other w.drew g k cur2 (fun e => hap (e ▸ hk))⟩
      have gw : Gro ρ Φ w ρ Φ _ := Gro.world he
      refine ⟨_, .row g off (hi - lo + 1) (c - lo), rfl, own_row (named_at ..) rfl, ?_, ?_⟩
      · rw [hlen]
        refine qk.add (w' := w.drew.setRow g cur2) (m := .row g off (hi - lo + 1) (c - lo)) rfl he (fun k c' m' q hk hm' hq => setRow_other w.drew g q cur2 (hold1 k c' m' q hk hm' hq)) (fun q hq => by
          simp only [Nm.block, Option.some.injEq] at hq; subst hq; exact ⟨hap, hfree⟩) ?_
        refine BlkOK.row_ hX.symm (by rw [hX]; exact hroom) (by omega) (setRow_heap w.drew g cur cur2 u _ h4) (by rw [hsz2]; exact hcs0) ?_
        rw [hX, htake]
        exact ((rb.append hs.rows).append rc).mono (fun d v hd => DenD.mono gw.ext gw.phi hd)
      · rw [hlen]
        exact qk.grow_named _ he (fun q hq => .inr ⟨b, _, hm, hq⟩) (fun k _ hn => setRow_other w.drew g k cur2 (fun e => hn ⟨b, _, hm, by rw [e]; rfl⟩))
    · refine (ok.grow g off (hi - lo) (c - lo) n gv voff vc cur u bs cs fl w hlt (by omega) (by omega) room1 room2 h4 (by omega) hbs hcs hfl h1c h1v hvs hvlt).mono ?_
      rintro e' w' ⟨G, zs, g1, g2, g3, rfl, g5, g6, g7, g8⟩
      have hwl : w'.heap.size = w.heap.size + 1 := by rw [g5]; simp
      have hold : ∀ k, k < w.heap.size → w'.heap[k]? = w.heap[k]? := fun k hk => by rw [g5, Array.getElem?_push, if_neg (by omega)]
      have he : Ext Φ w w' := ⟨g6, g7, g8, by omega, fun k hk => hold k (q1.phi k hk)⟩
      have gw : Gro ρ Φ w ρ Φ w' := Gro.world he
      refine ⟨_, .row w.heap.size 0 (hi - lo + 1) G, rfl, own_row (named_at ..) rfl, ?_, ?_⟩
      · rw [hlen]
        refine qk.add (w' := w') (m := .row w.heap.size 0 (hi - lo + 1) G) rfl he (fun k c' m' q hk hm' hq => hold q (qk.lt hk hm' hq)) (fun q hq => by
          simp only [Nm.block, Option.some.injEq] at hq; subst hq
          exact ⟨fun hp => by have := q1.phi _ hp; omega, fun k c' m' hk _ hm' e => by have := qk.lt hk hm' e; omega⟩) ?_
        have hGe : (G - (hi - lo + 1)) * e.size + (hi - lo + 1) * e.size = G * e.size := by rw [← Nat.add_mul]; congr 1; omega
        have htot : (bs ++ fl ++ cs).length = (hi - lo + 1) * e.size := by simp only [List.length_append, hbl, hfl, hcll]; rw [Nat.add_mul (hi - lo), Nat.one_mul, hnN]; omega
        refine BlkOK.row_ (cur := (bs ++ fl ++ cs ++ zs).toArray) hX.symm (by rw [hX]; exact g1) g2 (by rw [g5]; simp) ?_ ?_
        · rw [List.size_toArray, List.length_append, htot, g3]; omega
        · rw [hX, List.drop_zero]
          simp only [List.toList_toArray]
          rw [← htot, List.take_left]
          exact ((rb.append hs.rows).append rc).mono (fun d v hd => DenD.mono gw.ext gw.phi hd)
      · rw [hlen]
        exact qk.grow_named _ he (fun q hq => by simp only [Nm.block, Option.some.injEq] at hq; subst hq; exact .inl (Nat.le_refl _)) (fun k hk _ => hold k hk)
  · have hnn : n = hi - lo := by omega
    subst hnn
    obtain ⟨r0, w1, m, g1, g2, g3, g4⟩ := append_view (ty := t) (ys := [y]) (cap := vc) q1 ht hs hb hm h2 h3 h4 h5 h6 l1 l2 hoff room1 room2
    have hr0 : ∃ a n c, r0 = .slice a n c := by
      simp only [Den] at g2
      rcases g2 with ⟨_, _, _, _, _, rfl⟩ | ⟨_, _, rfl⟩ <;> exact ⟨_, _, _, rfl⟩
    refine (ok.ends (some ⟨g, off, none⟩) (hi - lo) (c - lo) (fun h => by cases h) (by omega) (by omega) gv voff vc w g1 hr0).mono ?_
    rintro e' w' ⟨rfl, rfl⟩
    refine ⟨r0, m, rfl, g2, ?_, g4⟩
    have t1 : ((xs.take hi).drop lo).take (hi - lo) = (xs.take hi).drop lo := List.take_of_length_le (by omega)
    have t2 : ((xs.take hi).drop lo).drop (hi - lo) = [] := List.drop_eq_nil_of_le (by omega)
    rw [t1, t2, List.append_nil]
    exact g3

theorem insView_run {e : Sh} {by_ lo : Nat} {n : Int} {y : D} {H1 H' : Hp} {b : Nat} {hi : Option Nat} {u : TypeId} {tr : Tree (SV × Hp)} {r : SV} (h : insView T u e by_ n y H1 b lo hi = some tr) (ht : tr.run = some (r, H')) :
    ∃ nl xs, hget H1 b = some ⟨.rows e nl xs, u, false⟩ ∧ 0 ≤ n ∧ n ≤ ((hi.getD xs.length - lo : Nat) : Int) ∧ (hi.getD xs.length - lo + 1) * by_ ≤ 140737488355328 ∧ hi.getD xs.length - lo + 1 ≤ 4611686018427387904 ∧ r = .own H1.length ∧
      H' = H1.set b none ++ [some ⟨.rows e false (((xs.take (hi.getD xs.length)).drop lo).take n.toNat ++ [y] ++ ((xs.take (hi.getD xs.length)).drop lo).drop n.toNat), u, false⟩] := by
  unfold insView at h
  split at h
  · rename_i e' nl xs u' hb
    split at h
    · rename_i hc
      simp only [Bool.and_eq_true, Nat.beq_eq] at hc
      have := Sh.beq_eq hc.1; subst this
      have := hc.2; subst this
      simp only [Option.some.injEq] at h; subst h
      obtain ⟨hp, ht⟩ := Tree.run_need ht
      simp only [Bool.and_eq_true, decide_eq_true_eq, roomFor] at hp
      simp only [Tree.run, Option.some.injEq, Prod.mk.injEq] at ht
      exact ⟨nl, xs, hb, hp.1, hp.2.1, hp.2.2.1, hp.2.2.2, ht.1.symm, ht.2.symm⟩
    · cases h
  · cases h

theorem slice_of {ρ : Names} {Φ : Nat → Prop} {w : World} {b : Nat} {r0 : Value} (g : Den ρ Φ w (.own b) r0) : ∃ a n c, r0 = .slice a n c := by
  simp only [Den] at g
  rcases g with ⟨_, _, _, _, _, rfl⟩ | ⟨_, _, rfl⟩ <;> exact ⟨_, _, _, rfl⟩

theorem insert_call {f : FuncId} {t u : TypeId} {sz by_ : Nat} (ok : InsOK P f t u sz by_) {args : List SV} {H : Hp} {tr : Tree (SV × Hp)} {r : SV} {H' : Hp} (h : insertSpec T t u sz by_ args H = some tr) (htr : tr.run = some (r, H')) : CallOK P f args H r H' := by
  intro ρ Φ w vs hrel hargs
  unfold insertSpec at h
  split at h
  · rename_i s iv vb voff vc
    simp only [DenL] at hargs
    obtain ⟨sv, _, rfl, hs, ivv, _, rfl, hiv, xv, _, rfl, hx, rfl⟩ := hargs
    split at h
    · rename_i e by' zl k n hsh hby hzl hin
      split at h
      · rename_i ut hrt
        split at h
        · rename_i hcc
          simp only [Bool.and_eq_true, Nat.beq_eq, Bool.not_eq_true'] at hcc
          obtain ⟨⟨huu, hz1⟩, hz2, hfine, hsz, hbb, hk⟩ := hcc
          have hk' := kbeq_eq hk; subst hk'
          subst hbb; subst hsz
          obtain ⟨r1, r2, r3⟩ := rowT_run hrt
          have hut : T.underlying t = some (.slice ut) := r1
          split at h
          · rename_i y H1 hfr
            have hpos : 0 < e.size := Nat.pos_of_ne_zero (nbf.1 hz2)
            obtain ⟨Φ1, q1, q2, q3, q4, _⟩ := freeze_run (ρ := ρ) (w := w) (.list e) _ H _ H1 hfr Φ hrel xv hx
            -- what is put in
            simp only [Den] at hx
            obtain ⟨gv, hgn, rfl⟩ := hx
            simp only [DenD, D.nl, D.xs] at q3
            obtain ⟨a, cap, hsv, _, _, _, _, q5⟩ := q3
            simp only [Value.slice.injEq] at hsv
            obtain ⟨rfl, _, rfl⟩ := hsv
            obtain ⟨_, hΦ, fl, hrows, hcells⟩ := q5 _ rfl (by simp)
            simp only at hΦ
            have hgv : ∃ (vcur : Array Value) (tv : TypeId), w.heap[gv]? = some (.cells vcur tv (0, 0)) := by
              simp only [freeze] at hfr
              split at hfr
              · rename_i cs ty ro hbv
                obtain ⟨m, hm, hok⟩ := hrel.own _ _ hbv
                rw [hgn] at hm; simp only [Option.some.injEq] at hm; subst hm
                simp only [BlkOK] at hok
                obtain ⟨g', vs, hmm, hhp, _⟩ := hok
                simp only [Nm.blk.injEq] at hmm; subst hmm
                exact ⟨_, _, hhp⟩
              · cases hfr
            obtain ⟨vcur, tv, hgv⟩ := hgv
            have hiv' := int?_den hin hiv
            subst hiv'
            have hsrc : Src Φ1 w e [y] (some ⟨gv, voff, none⟩) fl := by
              refine ⟨hrows, (fun h => by cases h), fun p hp j v hj => ?_⟩
              simp only [Option.some.injEq] at hp; subst hp
              rw [addr_add]; exact hcells j v hj
            -- the rows' type
            have key : u = ut → ∃ i z, RowTy P t u e i z ∧ i.bytes = by' := by
              intro hu
              subst hu
              obtain ⟨i, z, hi, hz, his, hib, hzs⟩ := zero_of (P := P) hzl hby r2 hz1
              exact ⟨i, z, ⟨und_of (P := P) hut, hi, hz, his, hzs, hpos, hfine⟩, hib⟩
            have view : ∀ (b lo : Nat) (hi : Option Nat), insView T u e by' n y H1 b lo hi = some tr → (∀ (nl : Bool) (xs : List D), hget H1 b = some ⟨.rows e nl xs, u, false⟩ → Den ρ Φ1 w (.osl b e.size lo (hi.getD xs.length)) sv) → u = ut →
                Calls P f #[sv, .int .i64 n, .slice (some ⟨gv, voff, none⟩) 1 vc] w fun e w' => ∃ v ρ' Φ', e = .returned v ∧ Den ρ' Φ' w' r v ∧ Rel ρ' H' Φ' w' ∧ Grow ρ Φ w ρ' Φ' w' := by
              intro b lo hi hv hd hu
              obtain ⟨i, z, hty, hib⟩ := key hu
              subst hib
              obtain ⟨nl, xs, hb, hn0, hn1, hr1, hr2, rfl, rfl⟩ := insView_run hv htr
              have hd := hd nl xs hb
              obtain ⟨m, hm, hok⟩ := q1.own _ _ hb
              generalize hhi : hi.getD xs.length = hi' at *
              simp only [Den] at hd
              simp only [BlkOK] at hok
              have hnt : ((n.toNat : Nat) : Int) = n := Int.toNat_of_nonneg hn0
              rcases hok with ⟨a0, rfl, rfl, rfl⟩ | ⟨g, o, c, cur, rfl, rfl, h2, h3, h4, h5, h6⟩
              · rcases hd with ⟨_, _, _, _, _, s1, _⟩ | ⟨a1, s1, rfl, rfl, rfl⟩
                · rw [hm] at s1; cases s1
                · rw [hm] at s1; simp only [Option.some.injEq, Nm.emp.injEq] at s1; subst s1
                  have hn : n = 0 := by simp at hn1; omega
                  subst hn
                  have hlen : H1.length = (H1.set b none).length := by simp
                  simp only [Nat.sub_zero, Nat.zero_add] at hr1 hr2
                  obtain ⟨r0, w1, m, g1, g2, g3, g4⟩ := append_empty (ty := t) (ys := [y]) (cap := vc) (nl := a0.isNone) (b := a0) (q1.kill b) hty hsrc rfl (by simpa using hr1) (by simp)
                  refine (ok.ends a0 0 0 (fun _ => ⟨rfl, rfl⟩) (Nat.le_refl _) (by omega) gv voff vc w g1 (slice_of g2)).mono ?_
                  rintro e' w' ⟨rfl, rfl⟩
                  rw [← hlen] at g2 g3 g4
                  exact ⟨r0, _, Φ1, rfl, g2, by simpa using g3, q2.trans g4⟩
              · rcases hd with ⟨_, _, _, _, off, s1, s2, s3, s4, rfl⟩ | ⟨_, s1, _⟩
                · rw [hm] at s1; simp only [Option.some.injEq, Nm.row.injEq] at s1
                  obtain ⟨rfl, rfl, rfl, rfl⟩ := s1
                  have hne : gv ≠ g := fun he => q1.apart _ _ _ _ hb hm rfl rfl (he ▸ hΦ)
                  have hh := insert_view (off := off) (n := n.toNat) (vc := vc) ok q1 hty hsrc hgv hne hb hm h2 h3 h4 h5 h6 s2 s3 s4 (by omega) hr1 hr2
                  rw [hnt] at hh
                  refine hh.mono ?_
                  rintro e' w' ⟨r0, m, rfl, g2, g3, g4⟩
                  exact ⟨r0, _, Φ1, rfl, g2, g3, q2.trans g4⟩
                · rw [hm] at s1; cases s1
            have nought : ∀ (a : Option Addr), sv = .slice a 0 0 → u = ut → tr = .need (n == 0 && roomFor 1 by') (.ret (.own H1.length, H1 ++ [some ⟨.rows e false [y], u, false⟩])) →
                Calls P f #[sv, .int .i64 n, .slice (some ⟨gv, voff, none⟩) 1 vc] w fun e w' => ∃ v ρ' Φ', e = .returned v ∧ Den ρ' Φ' w' r v ∧ Rel ρ' H' Φ' w' ∧ Grow ρ Φ w ρ' Φ' w' := by
              intro a hsv hu htr'
              subst hsv; subst htr'
              obtain ⟨i, z, hty, hib⟩ := key hu
              subst hib
              obtain ⟨hp, ht⟩ := Tree.run_need htr
              simp only [Bool.and_eq_true, roomFor, beq_iff_eq, decide_eq_true_eq] at hp
              obtain ⟨rfl, hr1, hr2⟩ := hp
              simp only [Tree.run, Option.some.injEq, Prod.mk.injEq] at ht
              obtain ⟨rfl, rfl⟩ := ht
              obtain ⟨r0, w1, m, g1, g2, g3, g4⟩ := append_empty (ty := t) (ys := [y]) (cap := vc) (nl := a.isNone) (b := a) q1 hty hsrc rfl (by simpa using hr1) (by simp)
              refine (ok.ends a 0 0 (fun _ => ⟨rfl, rfl⟩) (Nat.le_refl _) (by omega) gv voff vc w g1 (slice_of g2)).mono ?_
              rintro e' w' ⟨rfl, rfl⟩
              exact ⟨r0, _, Φ1, rfl, g2, by simpa using g3, q2.trans g4⟩
            have hs1 := hs.mono q2.toGro
            split at h
            · rename_i b
              refine view b 0 none h (fun nl xs hb => ?_) huu.symm
              simp only [Den, Option.getD_none] at hs1 ⊢
              obtain ⟨m, hm, hok⟩ := q1.own _ _ hb
              simp only [BlkOK] at hok
              rcases hs1 with ⟨g, o, nn, c, s1, rfl⟩ | ⟨a, s1, rfl⟩
              · rw [hm] at s1; simp only [Option.some.injEq] at s1
                rcases hok with ⟨a0, rfl, _, _⟩ | ⟨g', o', c', cur, rfl, _, h2, _⟩
                · cases s1
                · simp only [Nm.row.injEq] at s1
                  obtain ⟨rfl, rfl, rfl, rfl⟩ := s1
                  exact .inl ⟨g', o', xs.length, c', o', hm, Nat.zero_le _, Nat.le_refl _, fun _ => by simp, by simp⟩
              · rw [hm] at s1; simp only [Option.some.injEq] at s1
                rcases hok with ⟨a0, rfl, _, hx0⟩ | ⟨g', o', c', cur, rfl, _⟩
                · simp only [Nm.emp.injEq] at s1; subst s1
                  exact .inr ⟨a0, hm, by simp, by rw [hx0]; rfl, by simp⟩
                · cases s1
            · rename_i b sz' lo hi
              split at h
              · rename_i hsz
                have hsz' : sz' = e.size := by simpa using hsz
                subst hsz'
                exact view b lo (some hi) h (fun nl xs hb => hs1) huu.symm
              · cases h
            · simp only [Option.some.injEq] at h
              simp only [Den] at hs
              obtain ⟨a, _, hsv⟩ := hs
              exact nought a hsv huu.symm h.symm
            · simp only [Option.some.injEq] at h
              simp only [Den] at hs
              exact nought none hs huu.symm h.symm
            · cases h
          · cases h
        · cases h
      · cases h
    · cases h
  · cases h

/-- slices.Insert of one, as a contract. -/
def insertCt {f : FuncId} {t u : TypeId} {sz by_ : Nat} (T : Tab) [GoodTab P T] (ok : InsOK P f t u sz by_) : Ct P where
  f := f
  turns := true
  enters := ok.enters
  spec := insertSpec T t u sz by_
  calls := fun args H tr r H' h htr => insert_call (T := T) ok h htr
end
end Go.Sy
