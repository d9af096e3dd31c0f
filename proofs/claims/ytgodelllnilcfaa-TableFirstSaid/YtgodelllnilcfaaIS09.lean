/-
  slices.Insert of one, as the program's text has it: what it does to the cells.
  No statement of the seat is proved here. Conditions: none.
-/
import Derived.Test.YtgodelllnilcfaaY28
import Derived.Test.YtgodelllnilcfaaTab09
import Derived.Test.YtgodelllnilcfaaProg
import Derived.Shelf.Spec.SlicesInsertGrow
set_option linter.unusedVariables false
set_option linter.unusedSimpArgs false
namespace Go.Proofs.Ytgodelllnilcfaa
open Go.Shelf Go.RowKit Go.Lib

theorem copy_gen {P : Program} (w : World) (dT sT ty elem : TypeId) (i : TypeInfo) (g o dLen dCap : Nat) (a : Addr) (sLen sCap k : Nat) (cur : Array Value) (t : TypeId) (cs : List Value)
    (hu : P.underlying dT = some (.slice elem)) (hi : P.info? elem = some i) (hk : Nat.min sLen dLen = k)
    (hg : w.heap[g]? = some (.cells cur t (0, 0))) (hn : cs.length = k * i.size)
    (hsrc : ∀ j v, cs[j]? = some v → w.cell? (a.add j) = some v) (hfit : o + cs.length ≤ cur.size) (h1 : ∀ v ∈ cs, v.oneCell' = true) :
    (Builtin.copy_ #[dT, sT] ty #[.slice (some ⟨g, o, none⟩) dLen dCap, .slice (some a) sLen sCap]).run P w =
      .ok (goInt k) (w.setRow g (cur.toList.take o ++ cs ++ cur.toList.drop (o + cs.length)).toArray) := by
  have hl := run_loadCells_list (P := P) w a cs hsrc
  have hst := run_storeCells_at P g o t cs 0 cur w hg (by simpa using hfit) h1
  simp [Builtin.copy_, run_underlying hu, Builtin.lenOf, Builtin.firstCells, sizeOf, typeInfo, hi, hk, ← hn, hl, hst]

set_option maxHeartbeats 4000000 in
set_option maxRecDepth 100000 in
/-- There is room. -/
theorem insert_shift (g o n c i vb voff vc : Nat) (cur cur1 cur2 : Array Value) (t : TypeId) (cs vs : List Value) (w : World) (hi : i < n) (hroom : n + 1 ≤ c) (hc63 : c ≤ 9223372036854775807) (hvb : vb ≠ g)
    (hg : w.heap[g]? = some (.cells cur t (0, 0))) (hsz : o + c * 13 ≤ cur.size) (hcs : cs = (cur.toList.drop (o + i * 13)).take ((n - i) * 13)) (hvl : vs.length = 13) (h1c : ∀ v ∈ cs, v.oneCell' = true) (h1v : ∀ v ∈ vs, v.oneCell' = true)
    (hcur1 : cur1 = (cur.toList.take (o + (i + 1) * 13) ++ cs ++ cur.toList.drop (o + (i + 1) * 13 + cs.length)).toArray) (hcur2 : cur2 = (cur1.toList.take (o + i * 13) ++ vs ++ cur1.toList.drop (o + i * 13 + vs.length)).toArray)
    (hvs : ∀ j v, vs[j]? = some v → w.cell? ⟨vb, voff + j, none⟩ = some v)
    (tA tB : TypeId) (kA kB : Nat) (hsa : w.shape? vb = some (tA, kA)) (hsb : w.shape? g = some (tB, kB)) (hkB : kB ≠ 0) (hfa : w.frozen? ⟨vb, voff, none⟩ = false) (hfe : w.frozen? ⟨vb, kA, none⟩ = false) :
    Calls Try.prog 50 #[.slice (some ⟨g, o, none⟩) n c, .int .i64 i, .slice (some ⟨vb, voff, none⟩) 1 vc] w fun e w' =>
      e = .returned (.slice (some ⟨g, o, none⟩) (n + 1) c) ∧ w' = (w.drew.setRow g cur1).setRow g cur2 := by
  have hz2 : ¬ ((i : Int) = (n : Int)) := by omega
  have hov : ∀ lb cb, (callFunc 74 #[.slice (some ⟨vb, voff, none⟩) 1 vc, .slice (some ⟨g, o + (i + 1) * 13, none⟩) lb cb]).run Try.prog w = .ok (.value (.bool false)) w := fun lb cb => by
    rw [run_callFunc_extern Try.func74 (by kernel_rfl) (by kernel_rfl) (by kernel_rfl) (e := Extern.SlicesOverlaps.overlaps #[22, 22] #[4]) (by kernel_rfl),
      Lib.run_overlaps_apart w 22 4 35 Try.underlying22 13 (by intro w; kernel_rfl) ⟨vb, voff, none⟩ ⟨g, o + (i + 1) * 13, none⟩ 1 vc lb cb hvb tA tB kA kB hsa hsb hkB hfa hfe]
    rfl
  obtain ⟨inf, hinf, hisz⟩ : ∃ inf, Try.prog.info? 35 = some inf ∧ inf.size = 13 := by
    have h : (Try.prog.info? 35).map (·.size) = some 13 := by kernel_rfl
    cases hq : Try.prog.info? 35 with
    | none => rw [hq] at h; cases h
    | some x => exact ⟨x, rfl, by rw [hq] at h; simpa using h⟩
  have mixed : Try.prog.follows .mixedOrders = true := by kernel_rfl
  have hw1 : IntKind.i64.wrap ((i : Int) + 1) = (i : Int) + 1 := by rw [IntKind.wrap_i64]; omega
  have hw2 : IntKind.i64.wrap ((n : Int) + 1) = (n : Int) + 1 := by rw [IntKind.wrap_i64]; omega
  have hb1 : (0 : Int) ≤ (i : Int) + 1 := by omega
  have hin : i ≤ n := by omega
  have htn : ((i : Int) + 1).toNat = i + 1 := by omega
  have htm : ((n : Int) + 1).toNat = n + 1 := by omega
  have hb2 : ¬ (c = i + 1) := by omega
  have hb3 : (i : Int) ≤ (n : Int) + 1 := by omega
  have hb4 : ¬ (c = i) := by omega
  have hb5 : ¬ ((c : Int) < (n : Int) + 1) := by omega
  have hb6 : (n : Int) + 1 ≤ (c : Int) := by omega
  have e1 : (n - i) * 13 + i * 13 = n * 13 := by omega
  have hcl : cs.length = (n - i) * 13 := by
    rw [hcs, List.length_take, List.length_drop, Array.length_toList]; omega
  have hl1 : cur1.size = cur.size := by
    rw [hcur1]; simp only [List.size_toArray, List.length_append, List.length_take, List.length_drop, Array.length_toList, hcl]; omega
  have hgd : w.drew.heap[g]? = some (.cells cur t (0, 0)) := hg
  have hcp1 : ∀ ty dc sc, (Builtin.copy_ #[22, 22] ty #[.slice (some ⟨g, o + (i + 1) * 13, none⟩) (n - i) dc, .slice (some ⟨g, o + i * 13, none⟩) (n + 1 - i) sc]).run Try.prog w.drew = .ok (goInt (n - i : Nat)) (w.drew.setRow g cur1) := fun ty dc sc => by
    rw [hcur1]
    exact copy_gen w.drew _ _ ty 35 inf g (o + (i + 1) * 13) (n - i) dc ⟨g, o + i * 13, none⟩ (n + 1 - i) sc (n - i) cur t cs Try.underlying22 hinf (by simp only [Nat.min_def]; split <;> omega) hgd (by rw [hcl, hisz])
      (fun j v hj => by
        have hj2 := hj
        rw [hcs, List.getElem?_take] at hj2
        split at hj2
        · rw [List.getElem?_drop] at hj2
          rw [Addr.add_lit]
          simp only [World.cell?, hgd]
          rw [← Array.getElem?_toList]
          simpa using hj2
        · cases hj2) (by rw [hcl]; omega) h1c
  have hcp2 : ∀ ty dc, (Builtin.copy_ #[22, 22] ty #[.slice (some ⟨g, o + i * 13, none⟩) (n + 1 - i) dc, .slice (some ⟨vb, voff, none⟩) 1 vc]).run Try.prog (w.drew.setRow g cur1) = .ok (goInt (1 : Nat)) ((w.drew.setRow g cur1).setRow g cur2) := fun ty dc => by
    rw [hcur2]
    exact copy_gen (w.drew.setRow g cur1) _ _ ty 35 inf g (o + i * 13) (n + 1 - i) dc ⟨vb, voff, none⟩ 1 vc 1 cur1 t vs Try.underlying22 hinf (by simp only [Nat.min_def]; split <;> omega) (setRow_heap _ g cur cur1 t _ hgd) (by simp [hvl, hisz])
      (fun j v hj => by
        have hh := setRow_other w.drew g vb cur1 hvb
        have h2 := hvs j v hj
        rw [Addr.add_lit]
        simp only [World.cell?] at h2 ⊢
        rw [hh]; exact h2) (by rw [hvl, hl1]; omega) h1v
  clear hcur1 hcur2 hl1 hcl e1 hcs hsz
  go_enter Try.func50, Try.ntmps50
  go_wp2_with (simp only [hov])
  go_region_law_o (refine step_copy_runI rfl _ _ 22 22 rfl _ _ (by simp [Act.eval, Act.put]) (by simp [Act.eval, Act.put]) (hcp1 _ _ _) ?_)
  go_wp2_with (at_builtin; refine wpList_copy_runI _ rfl _ _ 22 22 rfl _ _ rfl rfl (hcp2 _ _) ?_)
  go_ret
  exact ⟨rfl, rfl⟩

theorem lay_over (A V Z S : List Value) (h : V.length ≤ Z.length) : (A ++ Z ++ S).take A.length ++ V ++ (A ++ Z ++ S).drop (A.length + V.length) = A ++ V ++ Z.drop V.length ++ S := by
  have e1 : (A ++ Z ++ S).take A.length = A := by rw [List.append_assoc, List.take_left']; rfl
  have e2 : (A ++ Z ++ S).drop (A.length + V.length) = Z.drop V.length ++ S := by
    rw [List.append_assoc, ← List.drop_drop, List.drop_left, List.drop_append_of_le_length h]
  rw [e1, e2, List.append_assoc (A ++ V)]

theorem heap_end (w : World) (W : World) (R1 R2 ROW : Array Value) (U : TypeId) (h : W.heap = ((w.alloc (.cells ROW U)).setRow w.heap.size R1).heap) : (W.setRow w.heap.size R2).heap = w.heap.push (.cells R2 U) := by
  have e : (W.setRow w.heap.size R2).heap = ((((w.alloc (.cells ROW U)).setRow w.heap.size R1)).setRow w.heap.size R2).heap := by
    simp only [World.setRow, World.setRow] at h ⊢
    rw [h]
  rw [e, setRow_setRow]
  apply Array.ext_getElem?
  intro k
  by_cases hk : k = w.heap.size
  · subst hk
    rw [setRow_heap (w.alloc (.cells ROW U)) w.heap.size ROW R2 U (0, 0) (by show (w.heap.push _)[w.heap.size]? = _; simp)]
    simp
  · rw [setRow_other (w.alloc (.cells ROW U)) w.heap.size k R2 hk]
    show (w.heap.push _)[k]? = _
    rw [Array.getElem?_push, Array.getElem?_push, if_neg hk, if_neg hk]

set_option maxHeartbeats 4000000 in
set_option maxRecDepth 100000 in
/-- There is no room. -/
theorem insert_grow (g o n c i vb voff vc : Nat) (cur : Array Value) (t : TypeId) (bs cs vs : List Value) (w : World) (hi : i < n) (hnc : n ≤ c) (hroom : c < n + 1) (hbig : (n + 1) * 80 ≤ 140737488355328) (hbig2 : n + 1 ≤ 4611686018427387904)
    (hg : w.heap[g]? = some (.cells cur t (0, 0))) (hsz : o + n * 13 ≤ cur.size) (has : bs = (cur.toList.drop o).take (i * 13)) (hcs : cs = (cur.toList.drop (o + i * 13)).take ((n - i) * 13)) (hvl : vs.length = 13) (h1c : ∀ v ∈ cs, v.oneCell' = true) (h1v : ∀ v ∈ vs, v.oneCell' = true)
    (hvs : ∀ j v, vs[j]? = some v → w.cell? ⟨vb, voff + j, none⟩ = some v) (hvw : vb < w.heap.size) :
    Calls Try.prog 50 #[.slice (some ⟨g, o, none⟩) n c, .int .i64 i, .slice (some ⟨vb, voff, none⟩) 1 vc] w fun e w' =>
      ∃ (G : Nat) (zs : List Value), n + 1 ≤ G ∧ G ≤ maxLen ∧ zs.length = (G - (n + 1)) * 13 ∧ e = .returned (.slice (some ⟨w.heap.size, 0, none⟩) (n + 1) G) ∧
        w'.heap = w.heap.push (.cells (bs ++ vs ++ cs ++ zs).toArray 35) ∧ w'.os = w.os ∧ w'.tape = w.tape ∧ w'.output = w.output := by
  have hz2 : ¬ ((i : Int) = (n : Int)) := by omega
  have hz3 : (c : Int) < (n : Int) + 1 := by omega
  obtain ⟨inf, z, hinf, hisz, hiby, hizr, hzs⟩ : ∃ inf z, Try.prog.info? 35 = some inf ∧ inf.size = 13 ∧ inf.bytes = 80 ∧ inf.zero = some z ∧ z.cells.size = 13 := by
    have h : (Try.prog.info? 35).map (fun i => (i.size, i.bytes, i.zero.map (fun z => z.cells.size))) = some (13, 80, some 13) := by kernel_rfl
    cases hq : Try.prog.info? 35 with
    | none => rw [hq] at h; cases h
    | some x =>
      rw [hq] at h
      simp only [Option.map_some, Option.some.injEq, Prod.mk.injEq] at h
      obtain ⟨h1, h2, h3⟩ := h
      cases hz : x.zero with
      | none => rw [hz] at h3; cases h3
      | some z => rw [hz] at h3; exact ⟨x, z, rfl, h1, h2, hz, by simpa using h3⟩
  have mixed : Try.prog.follows .mixedOrders = true := by kernel_rfl
  have hgw : g < w.heap.size := (Array.getElem?_eq_some_iff.1 hg).1
  have hkk : (n : Int) + 1 - (i : Int) = ((n + 1 - i : Nat) : Int) := by omega
  have hik : i + (n + 1 - i) = n + 1 := by omega
  have e1 : (n - i) * 13 + i * 13 = n * 13 := by omega
  have hal : bs.length = i * 13 := by
    rw [has, List.length_take, List.length_drop, Array.length_toList]; omega
  have hcl : cs.length = (n - i) * 13 := by
    rw [hcs, List.length_take, List.length_drop, Array.length_toList]; omega
  have hold : (Builtin.firstCells inf.size i (.slice (some ⟨g, o, none⟩) i c)).run Try.prog w.drew = .ok bs.toArray w.drew := by
    rw [hisz]
    exact run_firstCells_some w.drew 13 i ⟨g, o, none⟩ i c bs (by rw [hal]) (fun j v hj => by
      rw [Addr.add_lit]
      rw [has, List.getElem?_take] at hj
      split at hj
      · rw [List.getElem?_drop] at hj
        have hgd : w.drew.heap[g]? = some (.cells cur t (0, 0)) := hg
        simp only [World.cell?, hgd]
        rw [← Array.getElem?_toList]
        simpa using hj
      · cases hj)
  obtain ⟨G, hG⟩ : ∃ G, G = grownCap w (n + 1) c 35 := ⟨_, rfl⟩
  have hGn : n + 1 ≤ G := by rw [hG]; exact grownCap_ge w _ _ _
  have hGm : G ≤ maxLen := by rw [hG]; exact grownCap_le_maxLen w (n + 1) c 35 (by unfold maxLen; omega)
  have hG63 : G ≤ 9223372036854775807 := by unfold maxLen at hGm; omega
  obtain ⟨zs, hzs2⟩ : ∃ zs : List Value, zs.toArray = Builtin.zeroCells z.cells (G - (n + 1)) := ⟨(Builtin.zeroCells z.cells (G - (n + 1))).toList, by simp⟩
  obtain ⟨zm, hzm⟩ : ∃ zm : List Value, zm.toArray = Builtin.zeroCells z.cells (n + 1 - i) := ⟨(Builtin.zeroCells z.cells (n + 1 - i)).toList, by simp⟩
  have hzl : zs.length = (G - (n + 1)) * 13 := by
    have := congrArg Array.size hzs2
    rw [size_zeroCells, hzs] at this; simpa using this
  have hml : zm.length = (n + 1 - i) * 13 := by
    have := congrArg Array.size hzm
    rw [size_zeroCells, hzs] at this; simpa using this
  obtain ⟨ROW, hROW⟩ : ∃ ROW : Array Value, ROW = (bs ++ zm ++ zs).toArray := ⟨_, rfl⟩
  have hrz : ∀ ty, (Builtin.append_ #[22, 3] ty #[.slice (some ⟨g, o, none⟩) i c, .int .i64 ((n : Int) + 1 - (i : Int))]).run Try.prog w =
      .ok (.slice (some ⟨w.heap.size, 0, none⟩) (n + 1) G) (w.drew.alloc (.cells ROW 35)) := fun ty => by
    have h := Lib.run_append_grow_zeros w 22 3 ty 35 inf z .i64 .i64 Try.underlying22 Try.underlying3 hinf hizr (some ⟨g, o, none⟩) i c bs hold (n + 1 - i) (by omega) (by omega) (by omega) (by omega) (by rw [hiby]; omega) (by rw [hiby, hik]; exact growslice_fits hroom hbig)
    rw [hik, ← hG, ← hzs2, ← hzm] at h
    rw [hkk, hROW]
    simpa using h
  obtain ⟨R1, hR1⟩ : ∃ R1 : Array Value, R1 = (bs ++ vs ++ zm.drop vs.length ++ zs).toArray := ⟨_, rfl⟩
  obtain ⟨R2, hR2⟩ : ∃ R2 : Array Value, R2 = (bs ++ vs ++ cs ++ zs).toArray := ⟨_, rfl⟩
  have hvm : vs.length ≤ zm.length := by rw [hvl, hml]; omega
  have l1 : (ROW.toList.take (i * 13) ++ vs ++ ROW.toList.drop (i * 13 + vs.length)).toArray = R1 := by
    rw [hROW, hR1, ← hal]
    simp only [List.toList_toArray]
    rw [lay_over bs vs zm zs hvm]
  have l2 : (R1.toList.take ((i + 1) * 13) ++ cs ++ R1.toList.drop ((i + 1) * 13 + cs.length)).toArray = R2 := by
    have hav : (i + 1) * 13 = (bs ++ vs).length := by rw [List.length_append, hal, hvl]; omega
    have hcd : cs.length = (zm.drop vs.length).length := by rw [List.length_drop, hml, hvl, hcl]; omega
    rw [hR1, hR2, hav]
    simp only [List.toList_toArray]
    rw [lay_over (bs ++ vs) cs (zm.drop vs.length) zs (by omega), hcd, List.drop_length, List.append_nil]
  have s0 : (w.alloc (.cells ROW 35)).heap[w.heap.size]? = some (.cells ROW 35 (0, 0)) := by show (w.heap.push _)[w.heap.size]? = _; simp
  have oldc : ∀ k, k < w.heap.size → (w.alloc (.cells ROW 35)).heap[k]? = w.heap[k]? := fun k hk => by show (w.heap.push _)[k]? = _; rw [Array.getElem?_push, if_neg (by omega)]
  have hRs : ROW.size = G * 13 := by
    rw [hROW]; simp only [List.size_toArray, List.length_append, hal, hml, hzl]; omega
  have hcpA : ∀ (W : World), W.heap = (w.alloc (.cells ROW 35)).heap → ∀ ty dc, (Builtin.copy_ #[22, 22] ty #[.slice (some ⟨w.heap.size, i * 13, none⟩) (n + 1 - i) dc, .slice (some ⟨vb, voff, none⟩) 1 vc]).run Try.prog W = .ok (goInt (1 : Nat)) (W.setRow w.heap.size R1) := fun W hW ty dc => by
    rw [← l1]
    exact copy_gen W _ _ ty 35 inf w.heap.size (i * 13) (n + 1 - i) dc ⟨vb, voff, none⟩ 1 vc 1 ROW 35 vs Try.underlying22 hinf (by simp only [Nat.min_def]; split <;> omega) (by rw [hW]; exact s0) (by simp [hvl, hisz])
      (fun j v hj => by
        have h2 := hvs j v hj
        rw [Addr.add_lit]
        simp only [World.cell?] at h2 ⊢
        rw [hW, oldc vb hvw]; exact h2) (by rw [hvl, hRs]; omega) h1v
  have hcpB : ∀ (W : World), W.heap = ((w.alloc (.cells ROW 35)).setRow w.heap.size R1).heap → ∀ ty dc sc, (Builtin.copy_ #[22, 22] ty #[.slice (some ⟨w.heap.size, (i + 1) * 13, none⟩) (n - i) dc, .slice (some ⟨g, o + i * 13, none⟩) (n - i) sc]).run Try.prog W = .ok (goInt (n - i : Nat)) (W.setRow w.heap.size R2) := fun W hW ty dc sc => by
    rw [← l2]
    have hWg : W.heap[g]? = some (.cells cur t (0, 0)) := by
      rw [hW, setRow_other _ w.heap.size g R1 (by omega), oldc g hgw]; exact hg
    have hR1s : R1.size = G * 13 := by
      rw [hR1]; simp only [List.size_toArray, List.length_append, List.length_drop, hal, hml, hzl, hvl]; omega
    exact copy_gen W _ _ ty 35 inf w.heap.size ((i + 1) * 13) (n - i) dc ⟨g, o + i * 13, none⟩ (n - i) sc (n - i) R1 35 cs Try.underlying22 hinf (by simp only [Nat.min_def]; split <;> omega) (by rw [hW]; exact setRow_heap _ w.heap.size ROW R1 35 _ s0) (by rw [hcl, hisz])
      (fun j v hj => by
        have hj2 := hj
        rw [hcs, List.getElem?_take] at hj2
        split at hj2
        · rw [List.getElem?_drop] at hj2
          rw [Addr.add_lit]
          simp only [World.cell?, hWg]
          rw [← Array.getElem?_toList]
          simpa using hj2
        · cases hj2) (by rw [hcl, hR1s]; omega) h1c
  have hfin : ∀ W : World, W.heap = ((w.alloc (.cells ROW 35)).setRow w.heap.size R1).heap → (W.setRow w.heap.size R2).heap = w.heap.push (.cells (bs ++ vs ++ cs ++ zs).toArray 35) := fun W hW => by
    rw [← hR2]; exact heap_end w W R1 R2 ROW 35 hW
  have hw1 : IntKind.i64.wrap ((i : Int) + 1) = (i : Int) + 1 := by rw [IntKind.wrap_i64]; omega
  have hw2 : IntKind.i64.wrap ((n : Int) + 1) = (n : Int) + 1 := by rw [IntKind.wrap_i64]; omega
  have hw3 : IntKind.i64.wrap ((n : Int) + 1 - (i : Int)) = (n : Int) + 1 - (i : Int) := by rw [IntKind.wrap_i64]; omega
  have hb1 : (0 : Int) ≤ (i : Int) + 1 := by omega
  have hin : i ≤ n := by omega
  have htn : ((i : Int) + 1).toNat = i + 1 := by omega
  have hGi : ¬ (G = i) := by omega
  have hGim : ¬ (G = i + 1) := by omega
  have hci : ¬ (c = i) := by omega
  have hb3 : (i : Int) ≤ (n : Int) := by omega
  have hb7 : (i : Int) ≤ (n : Int) + 1 := by omega
  have hc63 : c ≤ 9223372036854775807 := by omega
  clear hkk hik hold hROW hG hR1 hR2 l1 l2 s0 oldc hRs hml hvm hzm hzs2 has hcs hal hcl e1 hizr hzs
  have hA := hcpA (w.alloc (.cells ROW 35)).drew rfl
  have hB := hcpB ((w.alloc (.cells ROW 35)).drew.setRow w.heap.size R1).drew rfl
  go_enter Try.func50, Try.ntmps50
  go_wp2_with (at_builtin; refine Lib.wpList_append_run _ rfl _ _ _ _ rfl _ _ rfl rfl _ _ (hrz _) ?_)
  go_region
  go_wp2
  go_ret
  exact ⟨G, zs, hGn, hGm, hzl, rfl, hfin _ rfl, rfl, rfl, rfl⟩

set_option maxHeartbeats 4000000 in
set_option maxRecDepth 100000 in
/-- At the end: an append. -/
theorem insert_end (base : Option Addr) (n c : Nat) (hnil : base = none → n = 0 ∧ c = 0) (hnc : n ≤ c) (hc63 : c ≤ 9223372036854775807) (vb voff vc : Nat) (w : World) {r0 : Value} {w1 : World}
    (hrun : (Builtin.append_ #[22, 22] 22 #[.slice base n c, .slice (some ⟨vb, voff, none⟩) 1 vc]).run Try.prog w = .ok r0 w1) (hr0 : ∃ a n c, r0 = .slice a n c) :
    Calls Try.prog 50 #[.slice base n c, .int .i64 n, .slice (some ⟨vb, voff, none⟩) 1 vc] w fun e w' => e = .returned r0 ∧ w' = w1 := by
  obtain ⟨ra, rn, rc, rfl⟩ := hr0
  go_enter Try.func50, Try.ntmps50
  cases base with
  | none =>
    obtain ⟨h0, h1⟩ := hnil rfl
    subst h0; subst h1
    go_wp2_with (at_builtin; refine Lib.wpList_append_run _ rfl _ _ _ _ rfl _ _ rfl rfl _ _ hrun ?_)
    go_ret
    exact ⟨rfl, rfl⟩
  | some a =>
    obtain ⟨ab, ao, asp⟩ := a
    go_wp2_with (at_builtin; refine Lib.wpList_append_run _ rfl _ _ _ _ rfl _ _ rfl rfl _ _ hrun ?_)
    all_goals (go_ret; exact ⟨rfl, rfl⟩)
open Go.Sy
theorem ins_enters : Enters Try.prog 50 := enters_of (c := codeOf Try.f50) Try.func50 (by kernel_rfl) (by kernel_rfl)
theorem insOK : InsOK Try.prog 50 22 35 13 80 := ⟨ins_enters, insert_shift, insert_grow, insert_end⟩
noncomputable def insert_ct : Ct Try.prog := insertCt tab insOK
end Go.Proofs.Ytgodelllnilcfaa
