/- A part of the proof: S0, S1, ZLay, ZL, ZM, T2, XB, ZN, ZO, ZP, ZQ, ZR, ZS. -/
import Derived.Test.YtaillfemdmkdpaaGreatK04
import Derived.Shelf.Sort.Plain
import Derived.Shelf.Slices.CompactI
import Derived.Shelf.Lays
import Derived.Shelf.Lays2
import Derived.Test.YtaillfemdmkdpaaGreatProg
import Derived.Shelf.Slices.In.SortNone
set_option linter.unusedVariables false
set_option linter.unusedSimpArgs false
section
set_option linter.unusedVariables false
set_option linter.unusedSimpArgs false
namespace Go.TM
open Go Go.Proofs Go.Sort Go.Shelf
/-! ### the library's Sort and Compact over numbers, by the shelf's contracts -/
theorem leafAt_ints {zs : List Int} {j i : Nat} {l : V} (h : leafAt (zs.map (V.int .i64)) j i = some l) : i = 0 ∧ ∃ z, zs[j]? = some z ∧ l = .int .i64 z := by
  unfold leafAt at h
  rw [List.getElem?_map] at h
  cases hz : zs[j]? with
  | none => rw [hz] at h; cases h
  | some z =>
    rw [hz] at h
    simp only [Option.map_some, Option.bind_some, leaves] at h
    cases i with
    | zero => exact ⟨rfl, z, rfl, by simpa using h.symm⟩
    | succ i => simp at h
theorem own_ints {W : World} {F B : Nat → Prop} {v : Value} {zs : List Int} (h : OwnN W F B 1 v (zs.map (V.int .i64))) (hne : zs ≠ []) :
    ∃ (b o c : Nat) (cs : Array Value) (ty : TypeId), v = .slice (some ⟨b, o, none⟩) zs.length c ∧ B b ∧ W.heap[b]? = some (.cells cs ty (0, 0)) ∧ zs.length ≤ c ∧ c ≤ maxLen ∧ cs.size = o + c ∧ ∀ j z, zs[j]? = some z → cs[o + j]? = some (.int .i64 z) := by
  generalize hx : zs.map (V.int .i64) = xs at h
  cases h with
  | nil => cases zs <;> simp at hx hne
  | row _ _ _ b o c cs ty u Bs hB hBs hd hb hn hm hcs hs hc hl hN =>
    subst hx
    refine ⟨b, o, c, cs, ty, by simp, hB, hb, by simpa using hn, hm, by simpa using hcs, fun j z hz => ?_⟩
    have e : leafAt (zs.map (V.int .i64)) j 0 = some (.int .i64 z) := by simp [leafAt, hz, leaves]
    have h1 := hc j 0 _ e
    have h2 := hl j 0 _ e (by intro z ys; simp)
    generalize u j 0 = q at h1 h2
    cases h2
    simpa using h1
theorem ints_own {W : World} {F : Nat → Prop} {zs : List Int} {b o c : Nat} {cs : Array Value} {ty : TypeId} (hb : W.heap[b]? = some (.cells cs ty (0, 0))) (hn : zs.length ≤ c) (hm : c ≤ maxLen) (hcs : cs.size = o + c) (hc : ∀ j z, zs[j]? = some z → cs[o + j]? = some (.int .i64 z)) :
    OwnN W F (fun x => x = b) 1 (.slice (some ⟨b, o, none⟩) zs.length c) (zs.map (V.int .i64)) := by
  have key := OwnN.row (W := W) (F := F) (fun x => x = b) 1 (zs.map (V.int .i64)) b o c cs ty (fun j _ => .int .i64 (zs.getD j 0)) (fun _ _ _ => False) rfl (fun _ _ _ h => h.elim) (fun _ _ _ _ _ h => h.elim) hb (by simpa using hn) hm (by simpa using hcs)
    (fun e he => by
      obtain ⟨z, _, rfl⟩ := List.mem_map.1 he
      rfl)
    (fun j i l hl => by
      obtain ⟨rfl, z, hz, rfl⟩ := leafAt_ints hl
      have := hc j z hz
      simpa [hz] using this)
    (fun j i l hl _ => by
      obtain ⟨rfl, z, hz, rfl⟩ := leafAt_ints hl
      simp only [List.getD_eq_getElem?_getD, hz, Option.getD_some]
      exact .int _ _)
    (fun j i z ys hl => by
      obtain ⟨rfl, w, hz, e⟩ := leafAt_ints hl
      cases e)
  simpa using key
theorem putRow_block {W : World} {n b o : Nat} {os : Array Go.Obj} {cs : Array Value} {ty : TypeId} {ds : Array Int} (hb : W.heap[b]? = some (.cells cs ty (0, 0))) :
    (grow (putRow (Value.int .i64) (Sort.ahead W n) b o ds) os).heap[b]? = some (.cells (putCells (Value.int .i64) o ds cs) ty (0, 0)) ∧
    (∀ x, x < W.heap.size → x ≠ b → (grow (putRow (Value.int .i64) (Sort.ahead W n) b o ds) os).heap[x]? = W.heap[x]?) ∧
    W.heap.size ≤ (grow (putRow (Value.int .i64) (Sort.ahead W n) b o ds) os).heap.size := by
  have hlt : b < W.heap.size := by
    rw [Array.getElem?_eq_some_iff] at hb
    exact hb.1
  refine ⟨?_, fun x hx hne => ?_, ?_⟩
  · simp only [grow, putRow, mapBlock, heap_ahead]
    rw [Array.getElem?_append_left (by simpa using hlt), Array.getElem?_modify, if_pos rfl, hb]
    rfl
  · simp only [grow, putRow, mapBlock, heap_ahead]
    rw [Array.getElem?_append_left (by simpa using hx), Array.getElem?_modify, if_neg (fun e => hne e.symm)]
  · simp only [grow, putRow, mapBlock, heap_ahead]
    simp
theorem putCells_get {o : Nat} {ds : Array Int} {cs : Array Value} {c : Nat} (hcs : cs.size = o + c) (hn : ds.size ≤ c) {j : Nat} {z : Int} (hz : ds.toList[j]? = some z) : (putCells (Value.int .i64) o ds cs)[o + j]? = some (.int .i64 z) := by
  have hj : j < ds.size := by
    rw [List.getElem?_eq_some_iff] at hz
    simpa using hz.1
  have hlt : o + j < cs.size := by omega
  unfold putCells
  rw [Array.getElem?_mapIdx, Array.getElem?_eq_getElem hlt]
  simp only [Option.map_some]
  rw [if_pos ⟨by omega, by omega⟩]
  have e : o + j - o = j := by omega
  rw [e, getElem!_pos ds j hj]
  rw [List.getElem?_eq_some_iff] at hz
  simp [← hz.2]
theorem putCells_size {o : Nat} {ds : Array Int} {cs : Array Value} : (putCells (Value.int .i64) o ds cs).size = cs.size := by simp [putCells]
def intsR (zs : List Int) : S := { start [.inl 1 (zs.map (V.int .i64))] [] with e := (start [.inl 1 (zs.map (V.int .i64))] []).e }
theorem start_ints (zs : List Int) : (start [.inl 1 (zs.map (V.int .i64))] []).R = fun x => if x = 0 then some ⟨1, zs.map (V.int .i64), true⟩ else none := by
  funext x
  by_cases h : x = 0 <;> simp [start, adCs, adC, adL, S.newR, S.setR, S.zero, h]
theorem sort_gen {P : Program} {f : FuncId} {zs : List Int} (hne : zs ≠ []) (hlen : zs.length < 4611686018427387904)
    (has : ∃ fn, P.funcs[f]? = some fn ∧ (fn.name == "runtime.NumGoroutine") = false ∧ fn.body.isNone = false)
    (hcall : ∀ (blk off cap : Nat) (w : World), Holds (Value.int .i64) w blk off zs.toArray → blk < w.heap.size → Calls P f #[.slice (some ⟨blk, off, none⟩) zs.length cap] w fun e w' =>
      e = .returned (.tuple #[]) ∧ ∃ n os, w' = grow (putRow (Value.int .i64) (Sort.ahead w n) blk off (sortI zs).toArray) os) :
    GenOK P f [.inl 1 (zs.map (V.int .i64))] [] ⟨false, .tup [], [.inl 1 ((sortI zs).map (V.int .i64))], []⟩ := by
  refine ⟨has, fun M W vs hM hv => ?_⟩
  have hR := start_ints zs
  have hB : (start [.inl 1 (zs.map (V.int .i64))] []).B = fun _ => none := by
    funext x
    simp [start, adCs]
  have hnt : M.nt = 1 := by rw [hM.nt]; simp [start, adCs, adC, adL, S.newR, S.setR, S.zero]
  have hnb : M.nb = 0 := by rw [hM.nb]; simp [start, adCs]
  have hv' : ∃ v, vs = [v] ∧ v = M.ρ 0 := by
    simp only [adCs, adC, adL, S.zero] at hv
    cases vs with
    | nil => exact hv.elim
    | cons v vs =>
      cases vs with
      | cons _ _ => exact hv.2.elim
      | nil => exact ⟨v, rfl, hv.1.2⟩
  obtain ⟨v, rfl, rfl⟩ := hv'
  obtain ⟨_, hrow⟩ := hM.row 0 ⟨1, zs.map (V.int .i64), true⟩ (by rw [hR]; simp)
  rcases hrow with ⟨_, B, hown, hω, _⟩ | ⟨h, _⟩
  · obtain ⟨b, o, c, cs, ty, hρ, hBb, hb, hn, hm, hcs, hc⟩ := own_ints hown hne
    have hlt : b < W.heap.size := by
      rw [Array.getElem?_eq_some_iff] at hb
      exact hb.1
    have hH : Holds (Value.int .i64) W b o zs.toArray := by
      intro j hj
      have hj' : j < zs.length := by simpa using hj
      have h1 := hc j zs[j] (List.getElem?_eq_getElem hj')
      refine ⟨?_, ?_⟩
      · rw [getElem!_pos zs.toArray j hj]
        simp only [World.cell?, hb]
        simpa using h1
      · simp [World.frozen?, hb]
    rw [hρ]
    refine (hcall b o c W hH hlt).mono ?_
    rintro e W' ⟨rfl, n, os, rfl⟩
    obtain ⟨k1, k2, k3⟩ := putRow_block (n := n) (o := o) (os := os) (ds := (sortI zs).toArray) hb
    have hsl : (sortI zs).length = zs.length := (sortI_perm zs).length_eq
    generalize hW' : grow (putRow (Value.int .i64) (Sort.ahead W n) b o (sortI zs).toArray) os = W' at k1 k2 k3
    have hos : W'.os = W.os ∧ W'.tape = W.tape ∧ W'.output = W.output := by subst hW'; exact ⟨rfl, rfl, rfl⟩
    have hωb := hω b hBb
    have hown' : OwnN W' M.F (fun x => x = b) 1 (M.ρ 0) ((sortI zs).map (V.int .i64)) := by
      rw [hρ, ← hsl]
      exact ints_own k1 (by omega) hm (by rw [putCells_size]; exact hcs) fun j z hz => putCells_get (c := c) hcs (by simp; omega) (by simpa using hz)
    refine ⟨_, M, { start [.inl 1 (zs.map (V.int .i64))] [] with R := fun x => if x = 0 then some ⟨1, (sortI zs).map (V.int .i64), true⟩ else none }, .tup [], rfl, ?_⟩
    refine ⟨⟨[], rfl, trivial⟩, ⟨hM.nt, hM.nb, fun x y hx => ?_, fun t r hr => ?_, fun x hx => ⟨(hM.frz x hx).1, Nat.lt_of_lt_of_le (hM.frz x hx).2 k3⟩, fun x l hx => Nat.lt_of_lt_of_le (hM.lt x l hx) k3, hM.tok, hM.bx⟩, ⟨hos.1, hos.2.1, hos.2.2, k3, fun x hx hω0 => k2 x hx (fun e => by subst e; rw [hωb] at hω0; cases hω0), fun x l hx => .inl (by simp [hx]), fun x hx => .inl hx, fun _ h => h, Nat.le_refl _, Nat.le_refl _, fun _ _ => rfl, fun _ _ => rfl⟩, ?_, ?_, ?_, ?_, ?_, ?_, ?_⟩
    · simp only [hB] at hx
      cases hx
    · simp only at hr
      split at hr
      · rename_i h0
        subst h0
        cases hr
        refine ⟨by omega, .inl ⟨rfl, _, hown', ?_, ?_⟩⟩
        · rintro x rfl
          exact hωb
        · intro j i z ys hl
          obtain ⟨_, _, _, e⟩ := leafAt_ints hl
          cases e
      · cases hr
    · simp [resToks, liveOuts, isBad]
    · simp [resBoxes]
    · intro _
      refine ⟨by simp [noL, noLs], ?_⟩
      have : ∀ l : List Int, noLs (l.map (V.int .i64)) = true := by
        intro l
        induction l with
        | nil => rfl
        | cons x xs ih => simp [noLs, noL, ih]
      simp [noLs, noL, this]
    · simp
    · simp [outsOk, S.outR]
    · simp [boxOuts]
    · simp [closeR]
  · cases h
end Go.TM
end
section
set_option linter.unusedVariables false
set_option linter.unusedSimpArgs false
namespace Go.TM
open Go Go.Proofs Go.Sort Go.Shelf
theorem noLs_ints (l : List Int) : noLs (l.map (V.int .i64)) = true := by
  induction l with
  | nil => rfl
  | cons x xs ih => simp [noLs, noL, ih]
theorem ints_nt (zs : List Int) : (start [.inl 1 (zs.map (V.int .i64))] []).nt = 1 ∧ (start [.inl 1 (zs.map (V.int .i64))] []).nb = 0 ∧ (start [.inl 1 (zs.map (V.int .i64))] []).B = fun _ => none := by
  refine ⟨by simp [start, adCs, adC, adL, S.newR, S.setR, S.zero], by simp [start, adCs], ?_⟩
  funext x
  simp [start, adCs]
theorem ints_arg {M : Mem} {W : World} {zs : List Int} {vs : List Value} (hv : All2 (SR1 M W) (adCs [.inl 1 (zs.map (V.int .i64))] S.zero).1 vs) : vs = [M.ρ 0] := by
  simp only [adCs, adC, adL, S.zero] at hv
  cases vs with
  | nil => exact hv.elim
  | cons v vs =>
    cases vs with
    | cons _ _ => exact hv.2.elim
    | nil => rw [hv.1.2]
theorem compact_len (zs : List Int) : (Lib.compact zs).length ≤ zs.length := by
  unfold Lib.compact Lib.compactUpTo
  rw [List.length_map]
  exact Nat.le_trans (List.length_filter_le _ _) (by simp)
theorem compact_gen {P : Program} {f : FuncId} {zs : List Int} (hlen : zs.length ≤ 9223372036854775807)
    (has : ∃ fn, P.funcs[f]? = some fn ∧ (fn.name == "runtime.NumGoroutine") = false ∧ fn.body.isNone = false)
    (hcall : ∀ (blk off cap : Nat) (w : World), Holds (Value.int .i64) w blk off zs.toArray → zs.length ≤ cap → Calls P f #[.slice (some ⟨blk, off, none⟩) zs.length cap] w fun e w' =>
      e = .returned (.slice (some ⟨blk, off, none⟩) (Lib.compact zs).length cap) ∧ ∃ q, w' = putRow (Value.int .i64) (Sort.ahead w q) blk off (Lib.compact zs ++ List.replicate (zs.length - (Lib.compact zs).length) 0).toArray)
    (hnil : ∀ (a : Option Addr) (cap : Nat) (w : World), Calls P f #[.slice a 0 cap] w fun e w' => e = .returned (.slice a 0 cap) ∧ w' = w) :
    GenOK P f [.inl 1 (zs.map (V.int .i64))] [] ⟨true, .inl 1 ((Lib.compact zs).map (V.int .i64)), [.bad], []⟩ := by
  refine ⟨has, fun M W vs hM hv => ?_⟩
  have hR := start_ints zs
  obtain ⟨n1, n2, hB⟩ := ints_nt zs
  have hnt : M.nt = 1 := by rw [hM.nt, n1]
  have hnb : M.nb = 0 := by rw [hM.nb, n2]
  obtain rfl := ints_arg hv
  obtain ⟨_, hrow⟩ := hM.row 0 ⟨1, zs.map (V.int .i64), true⟩ (by rw [hR]; simp)
  rcases hrow with ⟨_, B, hown, hω, _⟩ | ⟨h, _⟩
  · by_cases hne : zs = []
    · subst hne
      have hv0 : ∃ a cap, M.ρ 0 = .slice a 0 cap := by
        generalize M.ρ 0 = q at hown
        generalize hx : ([] : List Int).map (V.int .i64) = xs at hown
        cases hown with
        | nil => exact ⟨_, _, rfl⟩
        | row => subst hx; exact ⟨_, _, rfl⟩
      obtain ⟨a, cap, hv0⟩ := hv0
      rw [hv0]
      refine (hnil a cap W).mono ?_
      rintro e W' ⟨rfl, rfl⟩
      refine ⟨_, M, start [.inl 1 (([] : List Int).map (V.int .i64))] [], .own 0, rfl, ?_⟩
      refine ⟨⟨by omega, hv0.symm⟩, hM, .refl _ _, ?_, ?_, ?_, ?_, ?_, ?_, ?_⟩
      · simp [resToks, resToks1, toks1, tokL, leaves, liveOuts, isBad, S.wrT, hR]
      · simp [resBoxes, boxesL]
      · intro h
        cases h
      · simp
      · simp [outsOk, isBad]
      · simp [boxOuts]
      · simp [closeR, closeB, onL1, closeL, hR, Lib.compact, Lib.compactUpTo]
    · obtain ⟨b, o, c, cs, ty, hρ, hBb, hb, hn, hm, hcs, hc⟩ := own_ints hown hne
      have hlt : b < W.heap.size := by
        rw [Array.getElem?_eq_some_iff] at hb
        exact hb.1
      have hH : Holds (Value.int .i64) W b o zs.toArray := by
        intro j hj
        have hj' : j < zs.length := by simpa using hj
        have h1 := hc j zs[j] (List.getElem?_eq_getElem hj')
        refine ⟨?_, ?_⟩
        · rw [getElem!_pos zs.toArray j hj]
          simp only [World.cell?, hb]
          simpa using h1
        · simp [World.frozen?, hb]
      rw [hρ]
      refine (hcall b o c W hH hn).mono ?_
      rintro e W' ⟨rfl, n, rfl⟩
      have hcl := compact_len zs
      obtain ⟨k1, k2, k3⟩ := putRow_block (n := n) (o := o) (os := #[]) (ds := (Lib.compact zs ++ List.replicate (zs.length - (Lib.compact zs).length) 0).toArray) hb
      rw [grow_empty] at k1 k2 k3
      generalize hW' : putRow (Value.int .i64) (Sort.ahead W n) b o (Lib.compact zs ++ List.replicate (zs.length - (Lib.compact zs).length) 0).toArray = W' at k1 k2 k3
      have hos : W'.os = W.os ∧ W'.tape = W.tape ∧ W'.output = W.output := by subst hW'; exact ⟨rfl, rfl, rfl⟩
      have hωb := hω b hBb
      have hown' : OwnN W' M.F (fun x => x = b) 1 (.slice (some ⟨b, o, none⟩) (Lib.compact zs).length c) ((Lib.compact zs).map (V.int .i64)) := by
        refine ints_own k1 (by omega) hm (by rw [putCells_size]; exact hcs) fun j z hz => putCells_get (c := c) hcs (by simp; omega) ?_
        have hj : j < (Lib.compact zs).length := by
          rw [List.getElem?_eq_some_iff] at hz
          exact hz.1
        simpa [List.getElem?_append_left hj] using hz
      refine ⟨_, ⟨M.F, fun x => if x = b then some (.tok 1) else M.ω x, M.β, fun t => if t = 1 then .slice (some ⟨b, o, none⟩) (Lib.compact zs).length c else M.ρ t, M.σ, 2, M.nb⟩,
        ⟨(start [.inl 1 (zs.map (V.int .i64))] []).e, (start [.inl 1 (zs.map (V.int .i64))] []).B, fun x => if x = 1 then some ⟨1, (Lib.compact zs).map (V.int .i64), true⟩ else none, 2, (start [.inl 1 (zs.map (V.int .i64))] []).nb⟩, .own 1, rfl, ?_⟩
      refine ⟨⟨by simp, by simp⟩, ⟨rfl, hM.nb, fun x y hx => ?_, fun t r hr => ?_, fun x hx => ⟨?_, Nat.lt_of_lt_of_le (hM.frz x hx).2 k3⟩, fun x l hx => ?_, fun x t hx => ?_, fun x k hx => ?_⟩, ⟨hos.1, hos.2.1, hos.2.2, k3, fun x hx hω0 => k2 x hx (fun e => by subst e; rw [hωb] at hω0; cases hω0), fun x l hx => .inl ?_, fun x hx => .inl hx, fun _ h => h, ?_, Nat.le_refl _, fun t ht => ?_, fun _ _ => rfl⟩, ?_, ?_, ?_, ?_, ?_, ?_, ?_⟩
      · simp only [hB] at hx
        cases hx
      · simp only at hr
        split at hr
        · rename_i h0
          subst h0
          cases hr
          refine ⟨by simp, .inl ⟨rfl, fun x => x = b, by simpa using hown', ?_, ?_⟩⟩
          · rintro x rfl
            simp
          · intro j i z ys hl
            obtain ⟨_, _, _, e⟩ := leafAt_ints hl
            cases e
        · cases hr
      · have h1 := (hM.frz x hx).1
        have hxb : x ≠ b := fun e => by subst e; rw [hωb] at h1; cases h1
        simp [hxb, h1]
      · by_cases e : x = b
        · subst e
          exact Nat.lt_of_lt_of_le hlt k3
        · simp only [e, if_false] at hx
          exact Nat.lt_of_lt_of_le (hM.lt x l hx) k3
      · by_cases e : x = b
        · simp only [e, if_true, Option.some.injEq, Root.tok.injEq] at hx
          simp [← hx]
        · simp only [e, if_false] at hx
          have := hM.tok x t hx
          simp only
          omega
      · by_cases e : x = b
        · simp [e] at hx
        · simp only [e, if_false] at hx
          exact hM.bx x k hx
      · by_cases e : x = b
        · subst e
          rw [hωb]
          simp
        · simp only [e, if_false] at hx
          simp [hx]
      · simp only
        omega
      · have : t ≠ 1 := by omega
        simp [this]
      · simp [resToks, resToks1, toks1, tokL, liveOuts, isBad, S.wrT]
      · simp [resBoxes, boxesL]
      · intro h
        cases h
      · simp
      · simp [outsOk, isBad]
      · simp [boxOuts]
      · simp [closeR, closeB, onL1, closeL]
  · cases h
theorem sort_all {P : Program} {f : FuncId} {zs : List Int} (hlen : zs.length < 4611686018427387904)
    (has : ∃ fn, P.funcs[f]? = some fn ∧ (fn.name == "runtime.NumGoroutine") = false ∧ fn.body.isNone = false)
    (hcall : ∀ (blk off cap : Nat) (w : World), Holds (Value.int .i64) w blk off zs.toArray → blk < w.heap.size → Calls P f #[.slice (some ⟨blk, off, none⟩) zs.length cap] w fun e w' =>
      e = .returned (.tuple #[]) ∧ ∃ n os, w' = grow (putRow (Value.int .i64) (Sort.ahead w n) blk off (sortI zs).toArray) os)
    (hnil : ∀ (a : Option Addr) (cap : Nat) (w : World), Calls P f #[.slice a 0 cap] w fun e w' => e = .returned (.tuple #[]) ∧ w' = w) :
    GenOK P f [.inl 1 (zs.map (V.int .i64))] [] ⟨false, .tup [], [.inl 1 ((sortI zs).map (V.int .i64))], []⟩ := by
  by_cases hne : zs = []
  · subst hne
    refine ⟨has, fun M W vs hM hv => ?_⟩
    have hR := start_ints []
    obtain ⟨n1, n2, hB⟩ := ints_nt []
    obtain rfl := ints_arg hv
    obtain ⟨_, hrow⟩ := hM.row 0 ⟨1, ([] : List Int).map (V.int .i64), true⟩ (by rw [hR]; simp)
    rcases hrow with ⟨_, B, hown, hω, _⟩ | ⟨h, _⟩
    · have hv0 : ∃ a cap, M.ρ 0 = .slice a 0 cap := by
        generalize M.ρ 0 = q at hown
        generalize hx : ([] : List Int).map (V.int .i64) = xs at hown
        cases hown with
        | nil => exact ⟨_, _, rfl⟩
        | row => subst hx; exact ⟨_, _, rfl⟩
      obtain ⟨a, cap, hv0⟩ := hv0
      rw [hv0]
      refine (hnil a cap W).mono ?_
      rintro e W' ⟨rfl, rfl⟩
      have hs : sortI [] = [] := by simp [sortI]
      refine ⟨_, M, start [.inl 1 (([] : List Int).map (V.int .i64))] [], .tup [], rfl, ?_⟩
      refine ⟨⟨[], rfl, trivial⟩, hM, .refl _ _, ?_, ?_, ?_, ?_, ?_, ?_, ?_⟩
      · simp [resToks, liveOuts, isBad]
      · simp [resBoxes]
      · intro _
        simp [noL, noLs, hs]
      · simp
      · simp [outsOk, S.outR, hR, hs]
      · simp [boxOuts]
      · simp [closeR]
    · cases h
  · exact sort_gen hne hlen has hcall
end Go.TM
end
section
set_option linter.unusedVariables false
namespace Go.Proofs
open Go.Shelf
def Tryz.lays189_ren : Go.Shelf.Ren := ⟨fun | 189 => 124 | 125 => 102 | 257 => 160 | 128 => 139 | 129 => 140 | 294 => 173 | 295 => 174 | 296 => 175 | 297 => 176 | 298 => 177 | 299 => 178 | 216 => 179 | 300 => 180 | 301 => 181 | 328 => 185 | 329 => 164 | 330 => 165 | 331 => 186 | 332 => 187 | 215 => 188 | 343 => 189 | n => n, fun | 28 => 98 | 3 => 3 | 46 => 146 | 0 => 0 | 51 => 177 | 53 => 179 | 4 => 4 | 183 => 171 | 182 => 170 | 131 => 120 | 5 => 5 | 9 => 9 | 218 => 193 | 222 => 197 | 228 => 209 | 229 => 210 | n => n, fun | n => n⟩
theorem Tryz.lays189 : Go.Proofs.Lays.n189 Tryz.prog Tryz.lays189_ren := {
  mixed := by kernel_rfl,
  f125 := Tryz.func102.trans (congrArg some (by kernel_rfl)),
  f128 := Tryz.func139.trans (congrArg some (by kernel_rfl)),
  f129 := Tryz.func140.trans (congrArg some (by kernel_rfl)),
  f189 := Tryz.func124.trans (congrArg some (by kernel_rfl)),
  f215 := Tryz.func188.trans (congrArg some (by kernel_rfl)),
  f216 := Tryz.func179.trans (congrArg some (by kernel_rfl)),
  f257 := Tryz.func160.trans (congrArg some (by kernel_rfl)),
  f294 := Tryz.func173.trans (congrArg some (by kernel_rfl)),
  f295 := Tryz.func174.trans (congrArg some (by kernel_rfl)),
  f296 := Tryz.func175.trans (congrArg some (by kernel_rfl)),
  f297 := Tryz.func176.trans (congrArg some (by kernel_rfl)),
  f298 := Tryz.func177.trans (congrArg some (by kernel_rfl)),
  f299 := Tryz.func178.trans (congrArg some (by kernel_rfl)),
  f300 := Tryz.func180.trans (congrArg some (by kernel_rfl)),
  f301 := Tryz.func181.trans (congrArg some (by kernel_rfl)),
  f328 := Tryz.func185.trans (congrArg some (by kernel_rfl)),
  f329 := Tryz.func164.trans (congrArg some (by kernel_rfl)),
  f330 := Tryz.func165.trans (congrArg some (by kernel_rfl)),
  f331 := Tryz.func186.trans (congrArg some (by kernel_rfl)),
  f332 := Tryz.func187.trans (congrArg some (by kernel_rfl)),
  f343 := Tryz.func189.trans (congrArg some (by kernel_rfl)),
  t0 := Tryz.underlying0,
  a0 := Tryz.isAgg0,
  z0 := Tryz.sizeOf0,
  v0 := Tryz.zeroValue0,
  t3 := Tryz.underlying3,
  a3 := Tryz.isAgg3,
  z3 := Tryz.sizeOf3,
  v3 := Tryz.zeroValue3,
  t4 := Tryz.underlying4,
  a4 := Tryz.isAgg4,
  z4 := Tryz.sizeOf4,
  v4 := Tryz.zeroValue4,
  t5 := Tryz.underlying5,
  a5 := Tryz.isAgg5,
  z5 := Tryz.sizeOf5,
  v5 := Tryz.zeroValue5,
  t9 := Tryz.underlying9,
  a9 := Tryz.isAgg9,
  z9 := Tryz.sizeOf9,
  v9 := Tryz.zeroValue9,
  t28 := Tryz.underlying98,
  a28 := Tryz.isAgg98,
  z28 := Tryz.sizeOf98,
  v28 := Tryz.zeroValue98,
  t46 := Tryz.underlying146,
  a46 := Tryz.isAgg146,
  z46 := Tryz.sizeOf146,
  v46 := Tryz.zeroValue146,
  t51 := Tryz.underlying177,
  a51 := Tryz.isAgg177,
  z51 := Tryz.sizeOf177,
  v51 := Tryz.zeroValue177,
  t53 := Tryz.underlying179,
  a53 := Tryz.isAgg179,
  z53 := Tryz.sizeOf179,
  v53 := Tryz.zeroValue179,
  t131 := Tryz.underlying120,
  a131 := Tryz.isAgg120,
  z131 := Tryz.sizeOf120,
  v131 := Tryz.zeroValue120,
  t182 := Tryz.underlying170,
  a182 := Tryz.isAgg170,
  z182 := Tryz.sizeOf170,
  v182 := Tryz.zeroValue170,
  t183 := Tryz.underlying171,
  a183 := Tryz.isAgg171,
  z183 := Tryz.sizeOf171,
  v183 := Tryz.zeroValue171,
  t218 := Tryz.underlying193,
  a218 := Tryz.isAgg193,
  z218 := Tryz.sizeOf193,
  v218 := Tryz.zeroValue193,
  t222 := Tryz.underlying197,
  a222 := Tryz.isAgg197,
  z222 := Tryz.sizeOf197,
  v222 := Tryz.zeroValue197,
  t228 := Tryz.underlying209,
  a228 := Tryz.isAgg209,
  z228 := Tryz.sizeOf209,
  v228 := Tryz.zeroValue209,
  t229 := Tryz.underlying210,
  a229 := Tryz.isAgg210,
  z229 := Tryz.sizeOf210,
  v229 := Tryz.zeroValue210 }
def Tryz.lays2_20_ren : Go.Shelf.Ren := ⟨fun | 20 => 127 | n => n, fun | 22 => 98 | 3 => 3 | 4 => 4 | 0 => 0 | n => n, fun | n => n⟩
theorem Tryz.lays2_20 : Go.Proofs.Lays2.n20 Tryz.prog Tryz.lays2_20_ren := {
  mixed := by kernel_rfl,
  f20 := Tryz.func127.trans (congrArg some (by kernel_rfl)),
  t0 := Tryz.underlying0,
  a0 := Tryz.isAgg0,
  z0 := Tryz.sizeOf0,
  v0 := Tryz.zeroValue0,
  t3 := Tryz.underlying3,
  a3 := Tryz.isAgg3,
  z3 := Tryz.sizeOf3,
  v3 := Tryz.zeroValue3,
  t4 := Tryz.underlying4,
  a4 := Tryz.isAgg4,
  z4 := Tryz.sizeOf4,
  v4 := Tryz.zeroValue4,
  t22 := Tryz.underlying98,
  a22 := Tryz.isAgg98,
  z22 := Tryz.sizeOf98,
  v22 := Tryz.zeroValue98,
  i3 := by kernel_rfl }
end Go.Proofs
end
section
set_option maxHeartbeats 2000000
set_option linter.unusedSimpArgs false
set_option linter.unusedVariables false
namespace Go.TM.Tryz
open Go Go.TM Go.Proofs
/-! ### the library's Sort and Compact over numbers -/
theorem f124_ok (zs : List Int) (h : zs.length ≤ 1048576) : GenOK Tryz.prog 124 [.inl 1 (zs.map (V.int .i64))] [] ⟨false, .tup [], [.inl 1 ((sortI zs).map (V.int .i64))], []⟩ :=
  sort_all (by omega) ⟨_, Tryz.func124, by kernel_rfl, by kernel_rfl⟩ (fun blk off cap w hH hb => Any.slices_Sort_int Tryz.lays189 blk off cap zs w hH hb (by omega)) (fun a cap w => Any.slices_Sort_int_none Tryz.lays189 a cap w)
theorem inj_ints {β : Type} (out : List Int → β) : ∀ a b : List Int, (([.inl 1 (a.map (V.int .i64))], []) : List V × List V) = ([.inl 1 (b.map (V.int .i64))], []) → out a = out b := by
  intro a b h
  simp only [Prod.mk.injEq, List.cons.injEq, and_true, V.inl.injEq, true_and] at h
  rw [map_inj (f := V.int .i64) (by intro x y; simp) h]
noncomputable def c124 := ctrG (fun zs : List Int => zs.length ≤ 1048576) (fun zs => ([.inl 1 (zs.map (V.int .i64))], [])) (fun zs => ⟨false, .tup [], [.inl 1 ((sortI zs).map (V.int .i64))], []⟩)
theorem c124_eq (zs : List Int) (h : zs.length ≤ 1048576) : c124 [.inl 1 (zs.map (V.int .i64))] [] = some ⟨false, .tup [], [.inl 1 ((sortI zs).map (V.int .i64))], []⟩ := ctrG_eq (inj_ints _) zs h rfl
theorem c124_ok : GOK Tryz.prog (124, [true], c124) := ctrG_ok fun zs h => f124_ok zs h
theorem f127_ok (zs : List Int) (h : zs.length ≤ 1048576) : GenOK Tryz.prog 127 [.inl 1 (zs.map (V.int .i64))] [] ⟨true, .inl 1 ((Lib.compact zs).map (V.int .i64)), [.bad], []⟩ :=
  compact_gen (by omega) ⟨_, Tryz.func127, by kernel_rfl, by kernel_rfl⟩ (fun blk off cap w hH hc => Any.slices_Compact_int Tryz.lays2_20 blk off cap zs w hH (by omega) hc) (fun a cap w => Any.slices_Compact_int_empty Tryz.lays2_20 a cap w)
noncomputable def c127 := ctrG (fun zs : List Int => zs.length ≤ 1048576) (fun zs => ([.inl 1 (zs.map (V.int .i64))], [])) (fun zs => ⟨true, .inl 1 ((Lib.compact zs).map (V.int .i64)), [.bad], []⟩)
theorem c127_eq (zs : List Int) (h : zs.length ≤ 1048576) : c127 [.inl 1 (zs.map (V.int .i64))] [] = some ⟨true, .inl 1 ((Lib.compact zs).map (V.int .i64)), [.bad], []⟩ := ctrG_eq (inj_ints _) zs h rfl
theorem c127_ok : GOK Tryz.prog (127, [true], c127) := ctrG_ok fun zs h => f127_ok zs h
end Go.TM.Tryz
end
section
set_option maxHeartbeats 2000000
set_option linter.unusedSimpArgs false
set_option linter.unusedVariables false
namespace Go.TM
@[simp] theorem norms_ints (xs : List Int) : norms (xs.map (V.int .i64)) = xs.map (V.int .i64) := by rw [norms_map]; simp
attribute [simp] noLs_ints
theorem int_inj : Function.Injective (V.int .i64) := by intro x y; simp
@[simp] theorem cut_ints (xs : List Int) : (xs = [] ∨ (leaves ((Option.map (V.int .i64) xs[0]?).getD .bad)).length = 1) = True := cut_ok (f := V.int .i64) (n := 1) (fun _ => rfl) xs
@[simp] theorem take_map_len {α : Type} (l : List α) (f : α → V) : List.take l.length (l.map f) = l.map f := List.take_of_length_le (by simp)
/-- A row of one's own, by what it holds. -/
def hasR (t : S) (v : V) (z : Nat) (xs : List V) : Prop := ∃ r, v = .own r ∧ r < t.nt ∧ t.R r = some ⟨z, xs, true⟩
@[simp] theorem hasR_own {t : S} {r z : Nat} {xs : List V} : hasR t (.own r) z xs ↔ r < t.nt ∧ t.R r = some ⟨z, xs, true⟩ :=
  ⟨fun ⟨_, h, h2⟩ => by cases h; exact h2, fun h => ⟨r, rfl, h⟩⟩
def hasI (l : List Int) (n : Int) : Bool := l.any fun x => decide (x = n)
theorem hasI_iff {l : List Int} {n : Int} : hasI l n = true ↔ n ∈ l := by
  simp only [hasI, List.any_eq_true, decide_eq_true_eq]
  constructor
  · rintro ⟨x, h, rfl⟩; exact h
  · exact fun h => ⟨n, h, rfl⟩
end Go.TM
namespace Go.TM.Tryz
open Go Go.TM Go.Proofs
theorem f161_ok (l : List Int) (s : Int) (hl : l.length ≤ lim) : FunOK Tryz.prog 161 [.lst (l.map (V.int .i64)), .int .i64 s] false (.int .i64 (fstI (fun x => decide (x = s)) l)) := by
  refine fun_ok (mkE_ok zmix (cl := []) (gl := []) [] trivial trivial) Tryz.func161 (by kernel_rfl) ?_
  refine FunW_run _ _ rfl rfl ?_
  simp only [lim] at hl
  simp
  refine lp_list l (fun i t => t.e 1 = .int .i64 s ∧ t.e 0 = .lst (l.map (V.int .i64)) ∧ t.e 7 = .int .i64 l.length ∧ t.e 8 = .int .i64 i ∧ anyI (fun x => decide (x = s)) l i = false) ?_ ?_ ?_
  · simp
  · rintro c' L hL i t x hx hi ih ⟨h1, h7, h8, h9, hall⟩
    have hw : IntKind.i64.wrap ((i : Int) + 1) = ((i + 1 : Nat) : Int) := wrap64 (by omega) (by omega)
    simp [-getElem?_pos, List.getElem?_cons_zero, h1, h7, h8, h9, hL, hi, hx]
    split
    · rename_i hc
      exact (fst_yes hx (by simp [hc]) hall).symm
    · rename_i hc
      refine ih _ ?_
      simp [h1, h7, h8, h9, hw, anyI_succ hx, hall]
      exact fun h => hc h.symm
  · rintro c' t ⟨h1, h7, h8, h9, hall⟩
    simp [h1, h7, h8, h9, fst_no hall]
noncomputable def c161 := ctr (fun a : List Int × Int => a.1.length ≤ lim) (fun a => [.lst (a.1.map (V.int .i64)), .int .i64 a.2]) (fun a => (false, .int .i64 (fstI (fun x => decide (x = a.2)) a.1)))
theorem c161_eq (l : List Int) (s : Int) (h : l.length ≤ lim) : c161 [.lst (l.map (V.int .i64)), .int .i64 s] = some (false, .int .i64 (fstI (fun x => decide (x = s)) l)) := ctr_eq (injl1 int_inj _) (l, s) h rfl
theorem c161_ok : COK Tryz.prog (161, c161) := ctr_ok fun a h => f161_ok a.1 a.2 h
theorem f125_ok (l : List Int) (s : Int) (hl : l.length ≤ lim) : FunOK Tryz.prog 125 [.lst (l.map (V.int .i64)), .int .i64 s] false (.bool (hasI l s)) := by
  refine fun_ok (mkE_ok zmix (cl := [(161, c161)]) (gl := []) [] c161_ok trivial) Tryz.func125 (by kernel_rfl) ?_
  refine FunW_run _ _ rfl rfl ?_
  simp [c161_eq l s hl, fst_ge, hasI]
noncomputable def c125 := ctr (fun a : List Int × Int => a.1.length ≤ lim) (fun a => [.lst (a.1.map (V.int .i64)), .int .i64 a.2]) (fun a => (false, .bool (hasI a.1 a.2)))
theorem c125_eq (l : List Int) (s : Int) (h : l.length ≤ lim) : c125 [.lst (l.map (V.int .i64)), .int .i64 s] = some (false, .bool (hasI l s)) := ctr_eq (injl1 int_inj _) (l, s) h rfl
theorem c125_ok : COK Tryz.prog (125, c125) := ctr_ok fun a h => f125_ok a.1 a.2 h
theorem f162_ok (l : List Int) (hl : l.length ≤ 1048576) : FunOK Tryz.prog 162 [.lst (l.map (V.int .i64))] false (.inl 1 (l.map (V.int .i64))) := by
  refine fun_ok (mkE_ok zmix (cl := []) (gl := []) [] trivial trivial) Tryz.func162 (by kernel_rfl) ?_
  refine FunW_run _ _ rfl rfl ?_
  have h1 : l.length * 8 ≤ 140737488355328 := by omega
  have h2 : l.length ≤ 4294967296 := by omega
  cases l with
  | nil => simp [room]
  | cons x xs => simp at h1 h2; simp [room, h1, h2]
noncomputable def c162 := ctr (fun l : List Int => l.length ≤ 1048576) (fun l => [.lst (l.map (V.int .i64))]) (fun l => (false, .inl 1 (l.map (V.int .i64))))
theorem c162_eq (l : List Int) (h : l.length ≤ 1048576) : c162 [.lst (l.map (V.int .i64))] = some (false, .inl 1 (l.map (V.int .i64))) := ctr_eq (injl int_inj _) l h rfl
theorem c162_ok : COK Tryz.prog (162, c162) := ctr_ok fun l h => f162_ok l h
end Go.TM.Tryz
end
section
set_option linter.unusedVariables false
set_option linter.unusedSimpArgs false
namespace Go.TM
open Go
variable {E : Env}
/-! ### a region that draws its order and makes memory, as a run -/
def planF (E : Env) (all : Array Oper) (pl : List (Nat × Bool)) (d : Option Tmp) (s : S) (K : S → Prop) (u : S) : Prop :=
  match d with
  | some d => planW E all pl u (s.put (some d) (u.e d)) K
  | none => planW E all pl u s K
def planM (E : Env) (all : Array Oper) (pl : List (Nat × Bool)) (d : Option Tmp) (u : S) (K : S → Prop) (s : S) : Prop :=
  match d with
  | some d => planW E all pl (u.put (some d) (flatC (s.e d))) s K
  | none => planW E all pl u s K
def planI (E : Env) (all : Array Oper) (pl : List (Nat × Bool)) (b : Bool) (o : Option Oper) (u s : S) (K : S → Prop) : Prop :=
  match o, b with
  | some o, false => pureOp E u o ∧ kont E [.ops true all [o]] (fun _ => planF E all pl o.dst s K) .normal u
  | some o, true => kont E [.ops false all [o]] (fun _ => planM E all pl o.dst u K) .normal s
  | none, _ => False
theorem planW_nil (all : Array Oper) (u s : S) (K : S → Prop) : planW E all [] u s K = K u := by rfl
theorem planW_cons (all : Array Oper) (i : Nat) (b : Bool) (pl : List (Nat × Bool)) (u s : S) (K : S → Prop) : planW E all ((i, b) :: pl) u s K = planI E all pl b all[i]? u s K := by
  cases b <;> cases h : all[i]? with
  | none => simp only [planW, h, planI]
  | some o =>
    simp only [planW, h, planI, kont]
    cases hd : o.dst <;> simp only [planF, planM] <;> rfl
theorem planI_pure (all : Array Oper) (pl : List (Nat × Bool)) (o : Oper) (u s : S) (K : S → Prop) : planI E all pl false (some o) u s K = (pureOp E u o ∧ kont E [.ops true all [o]] (fun _ => planF E all pl o.dst s K) .normal u) := by rfl
theorem planI_mem (all : Array Oper) (pl : List (Nat × Bool)) (o : Oper) (u s : S) (K : S → Prop) : planI E all pl true (some o) u s K = kont E [.ops false all [o]] (fun _ => planM E all pl o.dst u K) .normal s := by rfl
theorem planF_some (all : Array Oper) (pl : List (Nat × Bool)) (d : Tmp) (s : S) (K : S → Prop) (u : S) : planF E all pl (some d) s K u = planW E all pl u (s.put (some d) (u.e d)) K := by rfl
theorem planM_some (all : Array Oper) (pl : List (Nat × Bool)) (d : Tmp) (u : S) (K : S → Prop) (s : S) : planM E all pl (some d) u K s = planW E all pl (u.put (some d) (flatC (s.e d))) s K := by rfl
theorem planF_none (all : Array Oper) (pl : List (Nat × Bool)) (s : S) (K : S → Prop) (u : S) : planF E all pl none s K u = planW E all pl u s K := by rfl
theorem planM_none (all : Array Oper) (pl : List (Nat × Bool)) (u : S) (K : S → Prop) (s : S) : planM E all pl none u K s = planW E all pl u s K := by rfl
theorem aftD_some (pl : List (Nat × Bool)) (ops : Array Oper) (k : List Fr) (Q : X → S → Prop) (s : S) : aftD (some pl) ops k E Q s = planW E ops pl s.see { s.see with B := fun _ => none } fun u => kont E k Q .normal (s.after u ops) := by rfl
attribute [simp] planW_nil planW_cons planI_pure planI_mem planF_some planM_some planF_none planM_none aftD_some
@[simp] theorem vwE_str : vwE ∘ V.str = V.str := by funext x; rfl
@[simp] theorem vwE_int : vwE ∘ V.int .i64 = V.int .i64 := by funext x; rfl
theorem ctr_none {α : Type} {p : α → Prop} {enc : α → List V} {out : α → Bool × V} {args : List V} (h : ∀ a, p a → enc a ≠ args) : ctr p enc out args = none := by
  unfold ctr
  rw [dif_neg]
  rintro ⟨a, h1, h2⟩
  exact h a h1 h2
end Go.TM
end
section
set_option maxHeartbeats 2000000
set_option linter.unusedSimpArgs false
set_option linter.unusedVariables false
namespace Go.TM.Tryz
open Go Go.TM Go.Proofs
/-! ### lists of numbers -/
noncomputable def mixT : Int → List Int → Int
  | a, [] => a
  | a, x :: xs => mixT (mixI a x) xs
noncomputable def mixL (l : List Int) : Int := mixT l.length l
noncomputable def mixTo (l : List Int) (i : Nat) : Int := (l.take i).foldl mixI l.length
theorem mixT_foldl (a : Int) (l : List Int) : mixT a l = l.foldl mixI a := by
  induction l generalizing a with
  | nil => rfl
  | cons x xs ih => simp [mixT, ih]
theorem mixTo_succ {l : List Int} {i : Nat} {x : Int} (h : l[i]? = some x) : mixTo l (i + 1) = mixI (mixTo l i) x := by
  simp [mixTo, List.take_add_one, h]
theorem mixTo_all (l : List Int) : mixTo l l.length = mixL l := by
  simp [mixTo, mixL, mixT_foldl]
@[simp] theorem mixTo_zero (l : List Int) : mixTo l 0 = l.length := by simp [mixTo]
theorem intv_inj : Function.Injective (V.int .i64) := fun a b h => by simpa using h
theorem f99_ok (l : List Int) (hl : l.length ≤ lim) : FunOK Tryz.prog 99 [.lst (l.map (V.int .i64))] false (.int .i64 (mixL l)) := by
  refine fun_ok (mkE_ok zmix (cl := [(129, c129)]) (gl := []) [] c129_ok trivial) Tryz.func99 (by kernel_rfl) ?_
  refine FunW_run _ _ rfl rfl ?_
  simp only [lim] at hl
  simp
  refine lp_list l (fun i t => t.e 8 = .lst (l.map (V.int .i64)) ∧ t.e 9 = .int .i64 l.length ∧ t.e 10 = .int .i64 i ∧ t.e 3 = .int .i64 (mixTo l i)) ?_ ?_ ?_
  · simp
  · rintro c' L hL i t x hx hi ih ⟨h8, h9, h10, h3⟩
    have hw : IntKind.i64.wrap ((i : Int) + 1) = ((i + 1 : Nat) : Int) := wrap64 (by omega) (by omega)
    simp [-getElem?_pos, List.getElem?_cons_zero, List.getElem?_cons_succ, h8, h9, h10, h3, hL, hi, hx, c129_eq]
    refine ih _ ?_
    simp [h8, h9, h10, h3, hw, mixTo_succ hx]
  · rintro c' t ⟨h8, h9, h10, h3⟩
    rw [mixTo_all] at h3
    simp [h8, h9, h10, h3]
theorem injl98 {β : Type} (out : List Int → β) : ∀ a b : List Int, [V.lst (a.map (V.int .i64))] = [V.lst (b.map (V.int .i64))] → out a = out b := by
  intro a b h
  simp only [List.cons.injEq, and_true, V.lst.injEq] at h
  rw [map_inj intv_inj h]
noncomputable def c99 := ctr (fun l : List Int => l.length ≤ lim) (fun l => [.lst (l.map (V.int .i64))]) (fun l => (false, .int .i64 (mixL l)))
theorem c99_eq (l : List Int) (h : l.length ≤ lim) : c99 [.lst (l.map (V.int .i64))] = some (false, .int .i64 (mixL l)) := ctr_eq (injl98 _) l h rfl
theorem c99_ok : COK Tryz.prog (99, c99) := ctr_ok fun l h => f99_ok l h
theorem f83_ok (l : List Int) (hl : l.length ≤ lim) : FunOK Tryz.prog 83 [.lst (l.map (V.int .i64))] false (.int .i64 (mixL l)) := by
  refine fun_ok (mkE_ok zmix (cl := [(114, c114)]) (gl := []) [] c114_ok trivial) Tryz.func83 (by kernel_rfl) ?_
  refine FunW_run _ _ rfl rfl ?_
  simp only [lim] at hl
  simp
  refine lp_list l (fun i t => t.e 8 = .lst (l.map (V.int .i64)) ∧ t.e 9 = .int .i64 l.length ∧ t.e 10 = .int .i64 i ∧ t.e 3 = .int .i64 (mixTo l i)) ?_ ?_ ?_
  · simp
  · rintro c' L hL i t x hx hi ih ⟨h8, h9, h10, h3⟩
    have hw : IntKind.i64.wrap ((i : Int) + 1) = ((i + 1 : Nat) : Int) := wrap64 (by omega) (by omega)
    simp [-getElem?_pos, List.getElem?_cons_zero, List.getElem?_cons_succ, h8, h9, h10, h3, hL, hi, hx, c114_eq]
    refine ih _ ?_
    simp [h8, h9, h10, h3, hw, mixTo_succ hx]
  · rintro c' t ⟨h8, h9, h10, h3⟩
    rw [mixTo_all] at h3
    simp [h8, h9, h10, h3]
noncomputable def c83 := ctr (fun l : List Int => l.length ≤ lim) (fun l => [.lst (l.map (V.int .i64))]) (fun l => (false, .int .i64 (mixL l)))
theorem c83_eq (l : List Int) (h : l.length ≤ lim) : c83 [.lst (l.map (V.int .i64))] = some (false, .int .i64 (mixL l)) := ctr_eq (injl98 _) l h rfl
theorem c83_ok : COK Tryz.prog (83, c83) := ctr_ok fun l h => f83_ok l h
/-! ### texts -/
def byI (b : UInt8) : Int := b.toNat
def bysI (s : ByteArray) : List Int := s.data.toList.map byI
noncomputable def textI (s : ByteArray) : Int := mixL (bysI s)
@[simp] theorem bysI_len (s : ByteArray) : (bysI s).length = s.size := by simp [bysI]
theorem byI_wrap (b : UInt8) : IntKind.i64.wrap b.toNat = byI b := wrap64 (by omega) (by have := b.toNat_lt; omega)
theorem f130_ok (s : ByteArray) (hs : s.size ≤ 1048576) : FunOK Tryz.prog 130 [.str s] false (.inl 1 ((bysI s).map (V.int .i64))) := by
  refine fun_ok (mkE_ok zmix (cl := []) (gl := []) [] trivial trivial) Tryz.func130 (by kernel_rfl) ?_
  refine FunW_run _ _ rfl rfl ?_
  have hsz := ba_len s
  have hr : ∀ n : Nat, n ≤ 1048576 → room ⟨1, false, 8, .int .i64 0⟩ n := fun n hn => by simp [room]; omega
  simp
  refine lp_list s.data.toList (fun i t => t.e 0 = .str s ∧ t.e 7 = .int .i64 s.size ∧ t.e 8 = .int .i64 i ∧ hasR t (t.e 3) 1 (((bysI s).take i).map (V.int .i64))) ?_ ?_ ?_
  · simp
  · rintro c' L hL i t x hx hi ih ⟨h0, h7, h8, r, h3, hlt, hR⟩
    have hi' : i < s.size := by omega
    have hw : IntKind.i64.wrap ((i : Int) + 1) = ((i + 1 : Nat) : Int) := wrap64 (by omega) (by omega)
    have hx' : s.data[i]? = some x := by simpa using hx
    have hne : ¬ r = t.nt := by omega
    have hmin : min i s.size = i := by omega
    have hb : (bysI s)[i]? = some (byI x) := by simp [bysI, hx]
    have h1 := hr 1 (by omega)
    have h2 := hr (i + 1) (by omega)
    simp [-getElem?_pos, List.getElem?_cons_zero, List.getElem?_cons_succ, h0, h7, h8, h3, hR, hL, hi', hx', hmin, hne, h1, h2, byI_wrap]
    refine ih _ ?_
    simp [h0, h7, h8, hw, List.take_add_one, hb]
  · rintro c' t ⟨h0, h7, h8, r, h3, hlt, hR⟩
    have hR' : t.R r = some ⟨1, (bysI s).map (V.int .i64), true⟩ := by
      rw [hR, ← hsz, ← bysI_len s, List.take_length]
    rw [← hsz] at h8
    simp [h0, h7, h8, h3, hR']
noncomputable def c130 := ctr (fun s : ByteArray => s.size ≤ 1048576) (fun s => [.str s]) (fun s => (false, .inl 1 ((bysI s).map (V.int .i64))))
theorem c130_eq (s : ByteArray) (h : s.size ≤ 1048576) : c130 [.str s] = some (false, .inl 1 ((bysI s).map (V.int .i64))) := ctr_eq (by simp) s h rfl
theorem c130_ok : COK Tryz.prog (130, c130) := ctr_ok fun s h => f130_ok s h
theorem f100_ok (s : ByteArray) (hs : s.size ≤ 1048576) : FunOK Tryz.prog 100 [.str s] false (.int .i64 (textI s)) := by
  refine fun_ok (mkE_ok zmix (cl := [(130, c130), (99, c99)]) (gl := []) [] ⟨c130_ok, c99_ok⟩ trivial) Tryz.func100 (by kernel_rfl) ?_
  refine FunW_run _ _ rfl rfl ?_
  have e := c99_eq (bysI s) (by simp [lim]; omega)
  simp [c130_eq s hs, e, textI]
noncomputable def c100 := ctr (fun s : ByteArray => s.size ≤ 1048576) (fun s => [.str s]) (fun s => (false, .int .i64 (textI s)))
theorem c100_eq (s : ByteArray) (h : s.size ≤ 1048576) : c100 [.str s] = some (false, .int .i64 (textI s)) := ctr_eq (by simp) s h rfl
theorem c100_ok : COK Tryz.prog (100, c100) := ctr_ok fun s h => f100_ok s h
theorem f84_ok (s : ByteArray) (hs : s.size ≤ 1048576) : FunOK Tryz.prog 84 [.str s] false (.int .i64 (textI s)) := by
  refine fun_ok (mkE_ok zmix (cl := [(83, c83)]) (gl := []) [] c83_ok trivial) Tryz.func84 (by kernel_rfl) ?_
  refine FunW_run _ _ rfl rfl ?_
  have hsz := ba_len s
  have hr : ∀ n : Nat, n ≤ 1048576 → room ⟨1, false, 8, .int .i64 0⟩ n := fun n hn => by simp [room]; omega
  simp
  refine lp_list s.data.toList (fun i t => t.e 0 = .str s ∧ t.e 4 = .int .i64 i ∧ hasR t (t.e 3) 1 (((bysI s).take i).map (V.int .i64))) ?_ ?_ ?_
  · simp
  · rintro c' L hL i t x hx hi ih ⟨h0, h8, r, h3, hlt, hR⟩
    have hi' : i < s.size := by omega
    have hw : IntKind.i64.wrap ((i : Int) + 1) = ((i + 1 : Nat) : Int) := wrap64 (by omega) (by omega)
    have hx' : s.data[i]? = some x := by simpa using hx
    have hne : ¬ r = t.nt := by omega
    have hmin : min i s.size = i := by omega
    have hb : (bysI s)[i]? = some (byI x) := by simp [bysI, hx]
    have h1 := hr 1 (by omega)
    have h2 := hr (i + 1) (by omega)
    simp [-getElem?_pos, List.getElem?_cons_zero, List.getElem?_cons_succ, h0, h8, h3, hR, hL, hi', hx', hmin, hne, h1, h2, byI_wrap]
    refine ih _ ?_
    simp [h0, h8, hw, List.take_add_one, hb]
  · rintro c' t ⟨h0, h8, r, h3, hlt, hR⟩
    have hR' : t.R r = some ⟨1, (bysI s).map (V.int .i64), true⟩ := by
      rw [hR, ← hsz, ← bysI_len s, List.take_length]
    rw [← hsz] at h8
    have e := c83_eq (bysI s) (by simp [lim]; omega)
    simp [h0, h8, h3, hR', e, textI]
noncomputable def c84 := ctr (fun s : ByteArray => s.size ≤ 1048576) (fun s => [.str s]) (fun s => (false, .int .i64 (textI s)))
theorem c84_eq (s : ByteArray) (h : s.size ≤ 1048576) : c84 [.str s] = some (false, .int .i64 (textI s)) := ctr_eq (by simp) s h rfl
theorem c84_ok : COK Tryz.prog (84, c84) := ctr_ok fun s h => f84_ok s h
end Go.TM.Tryz
end
section
set_option maxHeartbeats 2000000
set_option linter.unusedSimpArgs false
set_option linter.unusedVariables false
namespace Go.TM.Tryz
open Go Go.TM Go.Proofs
def baseL (p : Bool) (x : Ty) : List Int := if (decide (0 ≤ x.base) && (p || !decide (x.kind = 6))) = true then [x.base] else []
def partsL (p : Bool) (x : Ty) : List Int := baseL p x ++ x.fields.map Fld.type
theorem baseL_len (p : Bool) (x : Ty) : (baseL p x).length ≤ 1 := by unfold baseL; split <;> simp
theorem f123_ok (x : Ty) (p : Bool) (hl : x.fields.length ≤ 1048576) : FunOK Tryz.prog 123 [x.v, .bool p] false (.inl 1 ((partsL p x).map (V.int .i64))) := by
  refine fun_ok (mkE_ok zmix (cl := []) (gl := []) [] trivial trivial) Tryz.func123 (by kernel_rfl) ?_
  refine FunW_run _ _ rfl rfl ?_
  have hr : room ⟨1, false, 8, .int .i64 0⟩ 1 := by simp [room]
  simp
  split
  all_goals rename_i hc
  all_goals try refine ⟨hr, ?_⟩
  all_goals
    refine lp_list x.fields (fun i t => t.e 26 = .lst (x.fields.map Fld.v) ∧ t.e 27 = .int .i64 x.fields.length ∧ t.e 28 = .int .i64 i ∧ hasR t (t.e 5) 1 ((baseL p x ++ (x.fields.take i).map Fld.type).map (V.int .i64))) ?_ ?_ ?_
    · simp [baseL, hc]
    · rintro c' L hL i t y hx hi ih ⟨h26, h27, h28, r, h5, hlt, hR⟩
      have hw : IntKind.i64.wrap ((i : Int) + 1) = ((i + 1 : Nat) : Int) := wrap64 (by omega) (by omega)
      have hr2 : room ⟨1, false, 8, .int .i64 0⟩ ((baseL p x).length + i + 1) := by have := baseL_len p x; simp [room]; omega
      have hne : ¬ r = t.nt := by omega
      have hmin : min i x.fields.length = i := by omega
      simp [-getElem?_pos, List.getElem?_cons_zero, List.getElem?_cons_succ, h26, h27, h28, h5, hR, hL, hi, hx, hr, hr2, hmin, hne]
      refine ih _ ?_
      simp [h26, h27, h28, hw, List.take_add_one, hx]
    · rintro c' t ⟨h26, h27, h28, r, h5, hlt, hR⟩
      rw [List.take_length] at hR
      have hR' : t.R r = some ⟨1, (partsL p x).map (V.int .i64), true⟩ := hR
      simp [h26, h27, h28, h5, hR']
noncomputable def c123 := ctr (fun a : Ty × Bool => a.1.fields.length ≤ 1048576) (fun a => [a.1.v, .bool a.2]) (fun a => (false, .inl 1 ((partsL a.2 a.1).map (V.int .i64))))
theorem inj123 {β : Type} (out : Ty × Bool → β) : ∀ a b : Ty × Bool, [a.1.v, .bool a.2] = [b.1.v, .bool b.2] → out a = out b := by
  rintro ⟨a, c⟩ ⟨b, d⟩ h
  simp only [List.cons.injEq, and_true, V.bool.injEq] at h
  rw [Ty.v_inj h.1, h.2]
theorem c123_eq (x : Ty) (p : Bool) (h : x.fields.length ≤ 1048576) : c123 [x.v, .bool p] = some (false, .inl 1 ((partsL p x).map (V.int .i64))) := ctr_eq (inj123 _) (x, p) h rfl
theorem c123_ok : COK Tryz.prog (123, c123) := ctr_ok fun a h => f123_ok a.1 a.2 h
noncomputable def c117 := ctr (fun _ : Unit => True) (fun _ => []) (fun _ => (false, .inl 6 (baseTys.map Ty.o)))
theorem c117_eq : c117 [] = some (false, .inl 6 (baseTys.map Ty.o)) := ctr_eq (by simp) () trivial rfl
theorem c117_ok : COK Tryz.prog (117, c117) := ctr_ok fun _ _ => f117_ok
end Go.TM.Tryz
end
section
set_option maxHeartbeats 2000000
set_option linter.unusedSimpArgs false
set_option linter.unusedVariables false
namespace Go.TM.Tryz
open Go Go.TM Go.Proofs
def tyAt (l : List Ty) (i : Nat) (x : Ty) : Bool := !(!decide (x.name = ⟨#[]⟩) && ((l.take (3 + i)).drop 3).any (sameTyB x)) && typeB l x
def typesB (l : List Ty) : Bool := inB l.length 3 24 && tysEq (l.take 3) baseTys && allI (tyAt l) (l.drop 3) (l.drop 3).length
@[simp] theorem baseTys_length : baseTys.length = 3 := rfl
theorem baseTys_lim : limL Ty.lim baseTys := by
  refine ⟨by simp [lim], ?_⟩
  intro x hx
  simp only [baseTys, List.mem_cons, List.not_mem_nil, or_false] at hx
  rcases hx with rfl | rfl | rfl <;> refine ⟨⟨by simp [lim], by simp⟩, ?_, ?_⟩ <;> simp [lim, ByteArray.size]
theorem limL_take {α : Type} {p : α → Prop} {l : List α} (h : limL p l) (n : Nat) : limL p (l.take n) := ⟨Nat.le_trans (by simp; omega) h.1, fun x hx => h.2 x (List.mem_of_mem_take hx)⟩
theorem limL_drop {α : Type} {p : α → Prop} {l : List α} (h : limL p l) (n : Nat) : limL p (l.drop n) := ⟨Nat.le_trans (by simp) h.1, fun x hx => h.2 x (List.mem_of_mem_drop hx)⟩
theorem f91_ok (l : List Ty) (hl : limL Ty.lim l) : FunOK Tryz.prog 91 [.lst (l.map Ty.v)] false (.bool (typesB l)) := by
  refine fun_ok (mkE_ok zmix (cl := [(117, c117), (90, c90), (118, c118), (120, c120), (122, c122)]) (gl := []) [] ⟨c117_ok, c90_ok, c118_ok, c120_ok, c122_ok⟩ trivial) Tryz.func91 (by kernel_rfl) ?_
  refine FunW_run _ _ rfl rfl ?_
  have hlen := hl.1
  simp only [lim] at hlen
  have e95 := c118_eq (l.take 3) baseTys (limL_take hl 3) baseTys_lim
  rw [List.map_take] at e95
  have e67 := c90_eq l.length 3 24
  cases h67 : inB l.length 3 24
  · rw [h67] at e67
    simp [c117_eq, e67, e95, typesB, h67]
  · rw [h67] at e67
    have h3 : 3 ≤ l.length := by simp [inB] at h67; omega
    have h3' : (3 : Int) ≤ l.length := by omega
    cases h95 : tysEq (l.take 3) baseTys
    · rw [h95] at e95
      simp [c117_eq, e67, e95, typesB, h67, h95, h3']
    · rw [h95] at e95
      simp [c117_eq, e67, e95, h3']
      obtain ⟨q, hq⟩ : ∃ q, q = l.drop 3 := ⟨_, rfl⟩
      have hql : q.length = l.length - 3 := by rw [hq]; simp
      refine lp_list q (fun i t => t.e 0 = .lst (l.map Ty.v) ∧ hasR t (t.e 3) 6 (baseTys.map Ty.o) ∧ t.e 26 = .lst (q.map Ty.v) ∧ t.e 27 = .int .i64 q.length ∧ t.e 28 = .int .i64 i ∧ allI (tyAt l) q i = true) ?_ ?_ ?_
      · subst hq
        simp
      · rintro c' L hL i t x hx hi ih ⟨h0, ⟨r, h3, hlt, hR⟩, h26, h27, h28, hall⟩
        have hw : IntKind.i64.wrap ((i : Int) + 1) = ((i + 1 : Nat) : Int) := wrap64 (by omega) (by omega)
        have hw3 : IntKind.i64.wrap (3 + (i : Int)) = ((3 + i : Nat) : Int) := wrap64 (by omega) (by omega)
        have hxl : x ∈ l := List.mem_of_mem_drop (i := 3) (hq ▸ List.mem_of_getElem? hx)
        have e99 := c122_eq l x hl.1 (hl.2 x hxl)
        have e97 := c120_eq ((l.take (3 + i)).drop 3) x (by simp [lim]; omega)
        rw [List.map_drop, List.map_take] at e97
        simp only [Ty.v] at e97 e99
        have h3i : (3 + (i : Int)) ≤ l.length := by omega
        have hne : ¬ r = t.nt := by omega
        have a1 : (3 : Int) ≤ 3 + i := by omega
        have a2 : (3 + (i : Int)).toNat = 3 + i := by omega
        have no : tyAt l i x = false → typesB l = false := fun hn => by
          have := allI_no hx hn
          simp [typesB, ← hq, this]
        have go : ∀ s', tyAt l i x = true → s'.e 0 = .lst (l.map Ty.v) → s'.e 3 = .own r → r < s'.nt → s'.R r = some ⟨6, baseTys.map Ty.o, true⟩ → s'.e 26 = .lst (q.map Ty.v) → s'.e 27 = .int .i64 q.length → s'.e 28 = .int .i64 ((i + 1 : Nat) : Int) → L s' := fun s' hy g0 g3 gl gR g26 g27 g28 =>
          ih s' ⟨g0, ⟨r, g3, gl, gR⟩, g26, g27, g28, by rw [allI_succ hx, hall, hy]; rfl⟩
        cases hn : decide (x.name = ⟨#[]⟩) <;> cases hy : typeB l x <;> cases ha : ((l.take (3 + i)).drop 3).any (sameTyB x)
        all_goals
          rw [hy] at e99
          rw [ha] at e97
          simp only [decide_eq_true_eq, decide_eq_false_iff_not] at hn
          try rw [hn] at e97 e99
          simp [-getElem?_pos, List.getElem?_cons_zero, List.getElem?_cons_succ, h0, h3, hR, h26, h27, h28, hL, hi, hx, hw3, h3i, a1, a2, e97, e99, hn, hne]
          first
          | (apply no; simp [tyAt, hn, hy, ha]; done)
          | (apply go <;> simp [tyAt, hn, hy, ha, h0, h3, hR, h26, h27, h28, hw, hne] <;> omega)
          | skip
      · rintro c' t ⟨h0, ⟨r, h3, hlt, hR⟩, h26, h27, h28, hall⟩
        simp [h0, h3, hR, h26, h27, h28, typesB, h67, h95, ← hq, hall]
noncomputable def c91 := ctr (fun l : List Ty => limL Ty.lim l) (fun l => [.lst (l.map Ty.v)]) (fun l => (false, .bool (typesB l)))
theorem c91_eq (l : List Ty) (h : limL Ty.lim l) : c91 [.lst (l.map Ty.v)] = some (false, .bool (typesB l)) := ctr_eq (injl Ty.v_inj _) l h rfl
theorem c91_ok : COK Tryz.prog (91, c91) := ctr_ok fun l h => f91_ok l h
end Go.TM.Tryz
end
section
set_option maxHeartbeats 2000000
set_option linter.unusedSimpArgs false
set_option linter.unusedVariables false
namespace Go.TM.Tryz
open Go Go.TM Go.Proofs
def nxL (p : Bool) (l : List Ty) (n : Int) : List Int := ((l[n.toNat]?).map (partsL p)).getD []
structure RPre (p : Bool) (l : List Ty) (from_ : List Int) : Prop where
  len : l.length ≤ 24
  fld : ∀ x ∈ l, x.fields.length ≤ 6
  nxt : ∀ x ∈ l, Within l.length (partsL p x)
  src : Within l.length from_
  nod : from_.Nodup
theorem nxL_at {p : Bool} {l : List Ty} {n : Int} (h0 : 0 ≤ n) (h1 : n < l.length) : ∃ x, l[n.toNat]? = some x ∧ x ∈ l ∧ nxL p l n = partsL p x := by
  have h : n.toNat < l.length := by omega
  exact ⟨l[n.toNat], List.getElem?_eq_getElem h, List.getElem_mem h, by simp [nxL, h]⟩
theorem take_succ_at {α : Type} {l : List α} {i : Nat} {x : α} (h : l[i]? = some x) : l.take (i + 1) = l.take i ++ [x] := by
  rw [List.take_add_one, h]
  rfl
theorem f126_ok (p : Bool) (l : List Ty) (fr : List Int) (h : RPre p l fr) : FunOK Tryz.prog 126 [.lst (l.map Ty.v), .lst (fr.map (V.int .i64)), .bool p] false (.inl 1 ((sortI (reachL (nxL p l) (l.length + 1) 0 fr)).map (V.int .i64))) := by
  refine fun_ok (mkE_ok zmix (cl := [(162, c162), (123, c123), (125, c125)]) (gl := [(124, [true], c124)]) [] ⟨c162_ok, c123_ok, c125_ok⟩ c124_ok) Tryz.func126 (by kernel_rfl) ?_
  refine FunW_run _ _ rfl rfl ?_
  have hfl := nodup_within h.nod h.src
  have hlen := h.len
  simp [c162_eq fr (by omega)]
  refine lp_ind (fun m t => ∃ (i : Nat) (out : List Int), t.e 0 = .lst (l.map Ty.v) ∧ t.e 2 = .bool p ∧ t.e 8 = .int .i64 i ∧ hasR t (t.e 7) 1 (out.map (V.int .i64)) ∧ Within l.length out ∧ out.Nodup ∧ i ≤ out.length ∧ m + i = l.length ∧ reachL (nxL p l) (m + 1) i out = reachL (nxL p l) (l.length + 1) 0 fr) l.length ⟨0, fr, ?_⟩ ?_
  · simp [h.src, h.nod]
  · rintro c' L hL m t ih ⟨i, out, h0, h2, h8, ⟨r, h7, hlt, hR⟩, hwi, hnd, hio, hmi, heq⟩
    have hle := nodup_within hnd hwi
    by_cases hi : i < out.length
    · have hn := List.getElem?_eq_getElem hi
      obtain ⟨x, hx, hxl, hnx⟩ := nxL_at (p := p) (hwi out[i] (List.getElem_mem hi)).1 (hwi out[i] (List.getElem_mem hi)).2
      have e100 := c123_eq x p (by have := h.fld x hxl; omega)
      simp only [Ty.v] at e100
      have hi2 : (out[i]).toNat < l.length := by have := hwi out[i] (List.getElem_mem hi); omega
      have hb := hwi out[i] (List.getElem_mem hi)
      simp [-getElem?_pos, -List.getElem_map, List.getElem?_cons_zero, List.getElem?_cons_succ, h0, h2, h8, h7, hR, hL, hi, hn, hx, hi2, hb, e100]
      have hk6 := h.fld x hxl
      have hkl : (partsL p x).length ≤ 7 := by have := baseL_len p x; simp [partsL]; omega
      refine lp_list (partsL p x) (fun j s => s.e 0 = .lst (l.map Ty.v) ∧ s.e 2 = .bool p ∧ s.e 8 = .int .i64 i ∧ s.e 28 = .int .i64 (partsL p x).length ∧ s.e 29 = .int .i64 j ∧
        ∃ q r, s.e 27 = .own q ∧ q < s.nt ∧ s.R q = some ⟨1, (partsL p x).map (V.int .i64), true⟩ ∧ s.e 7 = .own r ∧ r < s.nt ∧ s.R r = some ⟨1, (addL out ((partsL p x).take j)).map (V.int .i64), true⟩ ∧ q ≠ r) ?_ ?_ ?_
      · have hne : ¬ t.nt = r := by omega
        have hne2 : ¬ r = t.nt := by omega
        simp [h0, h2, h8, h7, hR, hne, hne2, addL]
        omega
      · rintro c2 L2 hL2 j s k hk hj ih2 ⟨g0, g2, g8, g28, g29, q, r2, g27, gq, gR, g7, gr, gR2, gne⟩
        have hw : IntKind.i64.wrap ((j : Int) + 1) = ((j + 1 : Nat) : Int) := wrap64 (by omega) (by omega)
        have hwi' : Within l.length (addL out ((partsL p x).take j)) := fun y hy => by
          rcases mem_addL.1 hy with h1 | h1
          · exact hwi y h1
          · exact h.nxt x hxl y (List.mem_of_mem_take h1)
        have hnd' := addL_nodup (ks := (partsL p x).take j) hnd
        have hle' := nodup_within hnd' hwi'
        have e102 := c125_eq (addL out ((partsL p x).take j)) k (by simp [lim]; omega)
        have hsucc : addL out ((partsL p x).take (j + 1)) = if k ∈ addL out ((partsL p x).take j) then addL out ((partsL p x).take j) else addL out ((partsL p x).take j) ++ [k] := by
          rw [take_succ_at hk, addL_append]
          rfl
        have n1 : ¬ q = s.nt := by omega
        have n2 : ¬ r2 = s.nt := by omega
        have n3 : ¬ s.nt = q := by omega
        have n4 : ¬ s.nt = r2 := by omega
        have hroom : room ⟨1, false, 8, .int .i64 0⟩ ((addL out ((partsL p x).take j)).length + 1) := by simp [room]; omega
        have hr1 : room ⟨1, false, 8, .int .i64 0⟩ 1 := by simp [room]
        generalize hO : addL out ((partsL p x).take j) = O at *
        cases hm : hasI O k
        · rw [hm] at e102
          have hkm : k ∉ O := fun hc => by rw [hasI_iff.2 hc] at hm; cases hm
          rw [if_neg hkm] at hsucc
          simp [-getElem?_pos, -List.getElem_map, List.getElem?_cons_zero, List.getElem?_cons_succ, g0, g2, g8, g28, g29, g27, gR, g7, gR2, hL2, hj, hk, e102, n1, n2, n3, n4, hroom, hr1, gne]
          refine ih2 _ ?_
          have n5 : ¬ q = s.nt + 1 := by omega
          have n6 : ¬ s.nt + 1 = q := by omega
          simp [g0, g2, g8, g28, g29, g27, gR, hw, hsucc, n1, n2, n3, n4, n5, n6, gne]
          omega
        · rw [hm] at e102
          rw [if_pos (hasI_iff.1 hm)] at hsucc
          simp [-getElem?_pos, -List.getElem_map, List.getElem?_cons_zero, List.getElem?_cons_succ, g0, g2, g8, g28, g29, g27, gR, g7, gR2, hL2, hj, hk, e102, n1, n2, n3, n4, gne]
          refine ih2 _ ?_
          simp [g0, g2, g8, g28, g29, g27, gR, g7, gR2, hw, hsucc, gq, gr, gne]
      · rintro c2 s ⟨g0, g2, g8, g28, g29, q, r2, g27, gq, gR, g7, gr, gR2, gne⟩
        rw [List.take_length] at gR2
        have hw : IntKind.i64.wrap ((i : Int) + 1) = ((i + 1 : Nat) : Int) := wrap64 (by omega) (by omega)
        simp [g0, g2, g8, g28, g29, g27, g7, hL]
        obtain ⟨ex, hex, _⟩ := addL_ext (partsL p x) out
        refine ih (m - 1) _ (by omega) ⟨i + 1, addL out (partsL p x), ?_⟩
        have hm1 : m - 1 + 1 = m := by omega
        simp [g0, g2, g8, g7, hw, gr, gR2]
        refine ⟨?_, addL_nodup hnd, ?_, by omega, ?_⟩
        · intro y hy
          rcases mem_addL.1 hy with h1 | h1
          · exact hwi y h1
          · exact h.nxt x hxl y h1
        · rw [hex]; simp; omega
        · rw [hm1, ← heq]
          conv => rhs; rw [reachL]
          rw [hn]
          simp [hnx]
    · have hn : out[i]? = none := by simp; omega
      have e101 := c124_eq out (by omega)
      have hreach : reachL (nxL p l) (l.length + 1) 0 fr = out := by
        rw [← heq, reachL, hn]
      simp [h0, h2, h8, h7, hR, hi, e101, hreach, hlt]
noncomputable def c126 := ctr (fun a : Bool × List Ty × List Int => RPre a.1 a.2.1 a.2.2) (fun a => [.lst (a.2.1.map Ty.v), .lst (a.2.2.map (V.int .i64)), .bool a.1]) (fun a => (false, .inl 1 ((sortI (reachL (nxL a.1 a.2.1) (a.2.1.length + 1) 0 a.2.2)).map (V.int .i64))))
theorem inj126 {β : Type} (out : Bool × List Ty × List Int → β) : ∀ a b : Bool × List Ty × List Int, [V.lst (a.2.1.map Ty.v), .lst (a.2.2.map (V.int .i64)), .bool a.1] = [V.lst (b.2.1.map Ty.v), .lst (b.2.2.map (V.int .i64)), .bool b.1] → out a = out b := by
  rintro ⟨a, c, e⟩ ⟨b, d, f⟩ h
  simp only [List.cons.injEq, and_true, V.lst.injEq, V.bool.injEq] at h
  rw [map_inj Ty.v_inj h.1, map_inj int_inj h.2.1, h.2.2]
theorem c126_eq (p : Bool) (l : List Ty) (fr : List Int) (h : RPre p l fr) : c126 [.lst (l.map Ty.v), .lst (fr.map (V.int .i64)), .bool p] = some (false, .inl 1 ((sortI (reachL (nxL p l) (l.length + 1) 0 fr)).map (V.int .i64))) := ctr_eq (inj126 _) (p, l, fr) h rfl
theorem c126_ok : COK Tryz.prog (126, c126) := ctr_ok fun a h => f126_ok a.1 a.2.1 a.2.2 h
end Go.TM.Tryz
end
section
set_option maxHeartbeats 2000000
set_option linter.unusedSimpArgs false
set_option linter.unusedVariables false
namespace Go.TM.Tryz
open Go Go.TM Go.Proofs
structure TPre (l : List Ty) : Prop where
  len : l.length ≤ 24
  fld : ∀ x ∈ l, x.fields.length ≤ 6
  nxt : ∀ x ∈ l, Within l.length (partsL false x)
def srcL (x : Ty) : List Int := Lib.compact (sortI (partsL false x))
theorem TPre.pre {l : List Ty} (h : TPre l) {x : Ty} (hx : x ∈ l) : RPre false l (srcL x) :=
  ⟨h.len, h.fld, h.nxt, fun y hy => h.nxt x hx y (mem_sortI.1 (mem_compact.1 hy)), compact_nodup (sortI_sorted _)⟩
def roundI (l : List Ty) (x : Ty) (n : Int) : Bool := hasI (sortI (reachL (nxL false l) (l.length + 1) 0 (srcL x))) n
theorem parts_len {l : List Ty} (h : TPre l) {x : Ty} (hx : x ∈ l) : (partsL false x).length ≤ 7 := by
  have := baseL_len false x
  have := h.fld x hx
  simp [partsL]
  omega
theorem reach_len {l : List Ty} (h : TPre l) {x : Ty} (hx : x ∈ l) : (reachL (nxL false l) (l.length + 1) 0 (srcL x)).length ≤ 24 := by
  have hp := h.pre hx
  have key := reachL_spec (nx := nxL false l) (L := l.length) (fun n h0 h1 => by
    obtain ⟨y, _, hy, e⟩ := nxL_at (p := false) h0 h1
    rw [e]
    exact h.nxt y hy) (l.length + 1) 0 (srcL x) hp.src hp.nod (Nat.zero_le _) (by omega) (by omega)
  exact Nat.le_trans (nodup_within key.2.2 key.2.1) h.len
theorem f92_ok (l : List Ty) (n : Nat) (x : Ty) (h : TPre l) (hx : l[n]? = some x) : FunOK Tryz.prog 92 [.lst (l.map Ty.v), .int .i64 n] false (.bool (roundI l x n)) := by
  refine fun_ok (mkE_ok zmix (cl := [(123, c123), (125, c125), (126, c126)]) (gl := [(124, [true], c124), (127, [true], c127)]) [] ⟨c123_ok, c125_ok, c126_ok⟩ ⟨c124_ok, c127_ok⟩) Tryz.func92 (by kernel_rfl) ?_
  refine FunW_run _ _ rfl rfl ?_
  have hxl : x ∈ l := List.mem_of_getElem? hx
  have hn : n < l.length := by
    rw [List.getElem?_eq_some_iff] at hx
    exact hx.1
  have e100 := c123_eq x false (by have := h.fld x hxl; omega)
  have e101 := c124_eq (partsL false x) (by have := parts_len h hxl; omega)
  have e104 := c127_eq (sortI (partsL false x)) (by rw [(sortI_perm _).length_eq]; have := parts_len h hxl; omega)
  have e103 := c126_eq false l (srcL x) (h.pre hxl)
  have e102 := c125_eq (sortI (reachL (nxL false l) (l.length + 1) 0 (srcL x))) n (by rw [(sortI_perm _).length_eq]; have := reach_len h hxl; simp [lim]; omega)
  simp only [Ty.v] at e100
  simp only [srcL] at e103 e102
  simp [-getElem?_pos, List.getElem?_cons_zero, List.getElem?_cons_succ, hx, hn, e100, e101, e104, e103, e102, roundI, srcL]
end Go.TM.Tryz
end
section
set_option maxHeartbeats 2000000
set_option linter.unusedSimpArgs false
set_option linter.unusedVariables false
namespace Go.TM.Tryz
open Go Go.TM Go.Proofs
theorem inB_iff {n a b : Int} : inB n a b = true ↔ a ≤ n ∧ n ≤ b := by simp [inB]
theorem mem_partsL {p : Bool} {x : Ty} {k : Int} : k ∈ partsL p x ↔ (0 ≤ x.base ∧ (p = true ∨ x.kind ≠ 6) ∧ k = x.base) ∨ ∃ f ∈ x.fields, k = f.type := by
  unfold partsL baseL
  rw [List.mem_append]
  constructor
  · rintro (h | h)
    · split at h
      · rename_i hc
        simp at hc
        simp only [List.mem_singleton] at h
        exact .inl ⟨hc.1, hc.2, h⟩
      · cases h
    · obtain ⟨f, hf, rfl⟩ := List.mem_map.1 h
      exact .inr ⟨f, hf, rfl⟩
  · rintro (⟨h1, h2, rfl⟩ | ⟨f, hf, rfl⟩)
    · left
      rw [if_pos (by simpa using ⟨h1, h2⟩)]
      simp
    · exact .inr (List.mem_map.2 ⟨f, hf, rfl⟩)
theorem fldsB_fields {n : Nat} {l : List Fld} (h : fldsB n l = true) : l.length ≤ 6 ∧ ∀ f ∈ l, 0 ≤ f.type ∧ f.type < n := by
  simp only [fldsB, Bool.and_eq_true, decide_eq_true_eq] at h
  refine ⟨h.2, fun f hf => ?_⟩
  obtain ⟨i, hi, rfl⟩ := List.mem_iff_getElem.1 hf
  have := allI_iff.1 h.1 i _ (List.getElem?_eq_getElem hi)
  simp only [fldAt, Bool.and_eq_true, inB_iff] at this
  omega
theorem typeB_parts {l : List Ty} {x : Ty} (h : typeB l x = true) : x.fields.length ≤ 6 ∧ Within l.length (partsL false x) := by
  simp only [typeB, Bool.and_eq_true, Bool.not_eq_true', Bool.and_eq_false_iff, Bool.not_eq_false', decide_eq_true_eq, decide_eq_false_iff_not] at h
  obtain ⟨⟨_, h1⟩, h2⟩ := h
  unfold typeKB at h2
  have nof : ¬x.kind = 5 → x.fields = [] := fun hk => by
    rcases h1 with h1 | h1
    · exact absurd h1 hk
    · exact List.length_eq_zero_iff.1 (by omega)
  split at h2
  · rename_i hk
    have hf := nof (by omega)
    simp only [Bool.and_eq_true, inB_iff] at h2
    refine ⟨by simp [hf], fun k hkm => ?_⟩
    rcases mem_partsL.1 hkm with ⟨h3, _, rfl⟩ | ⟨f, hff, _⟩
    · omega
    · rw [hf] at hff; cases hff
  · split at h2
    · rename_i _ hk
      simp only [Bool.and_eq_true, Bool.or_eq_true, decide_eq_true_eq] at h2
      obtain ⟨h3, h4⟩ := fldsB_fields h2.2
      refine ⟨h3, fun k hkm => ?_⟩
      rcases mem_partsL.1 hkm with ⟨h5, _, rfl⟩ | ⟨f, hff, rfl⟩
      · rcases h2.1.2 with h6 | h6
        · omega
        · simp only [kindAt, Bool.and_eq_true, inB_iff] at h6
          omega
      · exact h4 f hff
    · rename_i hk4 hk5
      have hf := nof hk5
      simp only [Bool.and_eq_true, decide_eq_true_eq] at h2
      refine ⟨by simp [hf], fun k hkm => ?_⟩
      rcases mem_partsL.1 hkm with ⟨h3, h6, rfl⟩ | ⟨f, hff, _⟩
      · simp at h6
        omega
      · rw [hf] at hff; cases hff
theorem tyEq_base {x y : Ty} (h : tyEq x y = true) (hy : y ∈ baseTys) : x.base = -1 ∧ x.fields = [] := by
  simp only [tyEq, Bool.and_eq_true, beq_iff_eq, decide_eq_true_eq] at h
  obtain ⟨⟨⟨⟨⟨_, _⟩, h1⟩, h2⟩, _⟩, _⟩ := h
  simp only [fldsEq, Bool.and_eq_true, decide_eq_true_eq] at h2
  have hy' : y.base = -1 ∧ y.fields = [] := by
    simp only [baseTys, List.mem_cons, List.not_mem_nil, or_false] at hy
    rcases hy with rfl | rfl | rfl <;> simp
  refine ⟨by omega, ?_⟩
  rw [hy'.2] at h2
  exact List.length_eq_zero_iff.1 h2.1
theorem tysEq_get {xs ys : List Ty} (h : tysEq xs ys = true) {x : Ty} (hx : x ∈ xs) : ∃ y ∈ ys, tyEq x y = true := by
  simp only [tysEq, Bool.and_eq_true, decide_eq_true_eq] at h
  obtain ⟨i, hi, rfl⟩ := List.mem_iff_getElem.1 hx
  have := allI_iff.1 h.2 i _ (List.getElem?_eq_getElem hi)
  have hiy : i < ys.length := by omega
  simp only [tyAtEq, List.getElem?_eq_getElem hiy, Option.any_some] at this
  exact ⟨_, List.getElem_mem hiy, this⟩
theorem mem_take_drop {α : Type} {l : List α} {n : Nat} {x : α} (h : x ∈ l) : x ∈ l.take n ∨ x ∈ l.drop n := by
  rw [← List.take_append_drop n l] at h
  exact List.mem_append.1 h
theorem typesB_pre {l : List Ty} (h : typesB l = true) : TPre l := by
  simp only [typesB, Bool.and_eq_true, inB_iff] at h
  obtain ⟨⟨h1, h2⟩, h3⟩ := h
  have key : ∀ x ∈ l, x.fields.length ≤ 6 ∧ Within l.length (partsL false x) := fun x hx => by
    rcases mem_take_drop (n := 3) hx with hx | hx
    · obtain ⟨y, hy, he⟩ := tysEq_get h2 hx
      obtain ⟨h4, h5⟩ := tyEq_base he hy
      refine ⟨by simp [h5], fun k hk => ?_⟩
      rcases mem_partsL.1 hk with ⟨h6, _⟩ | ⟨f, hf, _⟩
      · omega
      · rw [h5] at hf; cases hf
    · obtain ⟨i, hi, rfl⟩ := List.mem_iff_getElem.1 hx
      have := allI_iff.1 h3 i _ (List.getElem?_eq_getElem hi)
      simp only [tyAt, Bool.and_eq_true] at this
      exact typeB_parts this.2
  exact ⟨by omega, fun x hx => (key x hx).1, fun x hx => (key x hx).2⟩
noncomputable def c92 := ctr (fun a : List Ty × Nat × Ty => TPre a.1 ∧ a.1[a.2.1]? = some a.2.2) (fun a => [.lst (a.1.map Ty.v), .int .i64 a.2.1]) (fun a => (false, .bool (roundI a.1 (a.1.getD a.2.1 a.2.2) a.2.1)))
theorem c92_eq (l : List Ty) (n : Nat) (x : Ty) (h : TPre l) (hx : l[n]? = some x) : c92 [.lst (l.map Ty.v), .int .i64 n] = some (false, .bool (roundI l x n)) := by
  have hi : l.getD n x = x := by simp [List.getD_eq_getElem?_getD, hx]
  unfold c92 ctr
  have hh : ∃ a : List Ty × Nat × Ty, (TPre a.1 ∧ a.1[a.2.1]? = some a.2.2) ∧ [V.lst (a.1.map Ty.v), .int .i64 a.2.1] = [.lst (l.map Ty.v), .int .i64 n] := ⟨(l, n, x), ⟨h, hx⟩, rfl⟩
  rw [dif_pos hh]
  have h1 := hh.choose_spec
  generalize hh.choose = a at h1
  obtain ⟨a1, a2, a3⟩ := a
  obtain ⟨⟨h2, h3⟩, h4⟩ := h1
  simp only [List.cons.injEq, and_true, V.lst.injEq, V.int.injEq, true_and, Int.natCast_inj] at h4 h3
  have h5 := map_inj Ty.v_inj h4.1
  obtain rfl := h4.2
  subst h5
  rw [hx] at h3
  cases h3
  simp only [hi]
theorem c92_ok : COK Tryz.prog (92, c92) := ctr_ok fun a h => by
  have hi : a.1.getD a.2.1 a.2.2 = a.2.2 := by simp [List.getD_eq_getElem?_getD, h.2]
  simp only [hi]
  exact f92_ok a.1 a.2.1 a.2.2 h.1 h.2
def tabAt (l : List Ty) (i : Nat) (x : Ty) : Bool := !roundI l x i
def tableI (l : List Ty) : Bool := typesB l && allI (tabAt l) l l.length
theorem f59_ok (l : List Ty) (hl : limL Ty.lim l) : FunOK Tryz.prog 59 [.lst (l.map Ty.v)] false (.bool (tableI l)) := by
  refine fun_ok (mkE_ok zmix (cl := [(91, c91), (92, c92)]) (gl := []) [] ⟨c91_ok, c92_ok⟩ trivial) Tryz.func59 (by kernel_rfl) ?_
  refine FunW_run _ _ rfl rfl ?_
  have e75 := c91_eq l hl
  have hlen := hl.1
  simp only [lim] at hlen
  cases ht : typesB l
  · rw [ht] at e75
    simp [e75, tableI, ht]
  · rw [ht] at e75
    have hp := typesB_pre ht
    simp [e75]
    refine lp_list l (fun i t => t.e 0 = .lst (l.map Ty.v) ∧ t.e 8 = .int .i64 l.length ∧ t.e 9 = .int .i64 i ∧ allI (tabAt l) l i = true) ?_ ?_ ?_
    · simp
    · rintro c' L hL i t x hx hi ih ⟨h0, h8, h9, hall⟩
      have hw : IntKind.i64.wrap ((i : Int) + 1) = ((i + 1 : Nat) : Int) := wrap64 (by omega) (by omega)
      have e76 := c92_eq l i x hp hx
      cases hr : roundI l x i
      · rw [hr] at e76
        simp [-getElem?_pos, h0, h8, h9, hL, hi, e76]
        refine ih _ ?_
        simp [h0, h8, h9, hw, allI_succ hx, hall, tabAt, hr]
      · rw [hr] at e76
        have := allI_no (p := tabAt l) hx (by simp [tabAt, hr])
        simp [-getElem?_pos, h0, h8, h9, hL, hi, e76, tableI, this]
    · rintro c' t ⟨h0, h8, h9, hall⟩
      simp [h0, h8, h9, tableI, ht, hall]
noncomputable def c59 := ctr (fun l : List Ty => limL Ty.lim l) (fun l => [.lst (l.map Ty.v)]) (fun l => (false, .bool (tableI l)))
theorem c59_eq (l : List Ty) (h : limL Ty.lim l) : c59 [.lst (l.map Ty.v)] = some (false, .bool (tableI l)) := ctr_eq (injl Ty.v_inj _) l h rfl
theorem c59_ok : COK Tryz.prog (59, c59) := ctr_ok fun l h => f59_ok l h
end Go.TM.Tryz
end
section
set_option maxHeartbeats 4000000
set_option maxRecDepth 10000
set_option linter.unusedSimpArgs false
set_option linter.unusedVariables false
namespace Go.TM.Tryz
open Go Go.TM Go.Proofs
def scopeHd (s : Scp) : Bool := nameB s.name && (decide (s.imports.length ≤ 4) && (unlikeB (s.name :: s.imports) && (tableI s.types && (decide (s.objects.length ≤ 16) && decide (s.uses.length ≤ 40)))))
def objAtI (s : Scp) (_ : Nat) (o : Obj) : Bool := objIB s.types.length o
def useAtI (s : Scp) (i : Nat) (u : Use) : Bool := hasB s.imports u.mod && nameB u.name && !(s.uses.take i).any (sameUseB u)
def scopeI (s : Scp) : Bool := scopeHd s && allI (objAtI s) s.objects s.objects.length && allI (useAtI s) s.uses s.uses.length && unlikeB (s.imports ++ s.objects.map Obj.name)
def pl29 : List (Nat × Bool) := [(0, false), (1, false), (2, false), (3, false), (4, true), (5, false), (6, false), (7, false), (8, false), (9, false), (10, false), (11, true), (12, false), (13, false), (14, false), (15, false), (16, false), (17, false), (18, false), (20, false), (21, false), (22, false), (23, false), (19, true), (24, true), (25, true), (26, false), (27, false), (28, false), (29, false), (30, false), (31, false), (32, false), (33, true), (34, false), (35, false), (36, false), (37, false), (38, false), (39, false), (40, false), (41, true), (42, false), (43, false), (44, false), (45, false), (46, false), (47, false), (48, false), (49, true), (50, false), (51, false)]
theorem f29_ok (s : Scp) (hl : s.lim) : FunOK Tryz.prog 29 [.ladr [s.v] 0 0] false (.bool (scopeI s)) := by
  refine fun_ok (mkE_ok zmix (cl := [(57, c57), (58, c58), (59, c59), (60, c60), (61, c61), (62, c62), (63, c63)]) (gl := []) [(1, pl29)] ⟨c57_ok, c58_ok, c59_ok, c60_ok, c61_ok, c62_ok, c63_ok⟩ trivial) Tryz.func29 (by kernel_rfl) ?_
  refine FunW_run _ _ rfl rfl ?_
  obtain ⟨l1, l2, l3, l4, l5⟩ := hl
  have e40 := c57_eq s.name l1
  have e54 := c59_eq s.types l3
  have e53b : c58 [.bad] = none := ctr_none fun a _ => by simp
  have r1 : room ⟨1, false, 16, .str ⟨#[]⟩⟩ 1 := by simp [room]
  cases h1 : nameB s.name
  · rw [h1] at e40
    simp [e40, e53b, e54, scopeI, scopeHd, h1, pl29, pureOp, S.see, seeL, S.after, flatC]
  rw [h1] at e40
  by_cases h2 : ¬ s.imports.length ≤ 4
  · have h2' : (4 : Int) < s.imports.length := by omega
    simp [e40, e53b, e54, scopeI, scopeHd, h1, h2, h2', pl29, pureOp, S.see, seeL, S.after, flatC]
  have h2' : ¬ (4 : Int) < s.imports.length := by omega
  have h2 : s.imports.length ≤ 4 := by omega
  have e53 := c58_eq (s.name :: s.imports) ⟨by simp [lim]; omega, fun x hx => by
    rcases List.mem_cons.1 hx with rfl | hx
    · exact l1
    · exact l2.2 x hx⟩
  simp only [List.map_cons] at e53
  have r2 : room ⟨1, false, 16, .str ⟨#[]⟩⟩ (1 + s.imports.length) := by simp [room]; omega
  cases h3 : unlikeB (s.name :: s.imports)
  · rw [h3] at e53
    simp [e40, e53, e54, scopeI, scopeHd, h1, h2, h2', h3, r1, r2, pl29, pureOp, S.see, seeL, S.after, flatC]
  rw [h3] at e53
  cases h4 : tableI s.types
  · rw [h4] at e54
    simp [e40, e53, e54, scopeI, scopeHd, h1, h2, h2', h3, h4, r1, r2, pl29, pureOp, S.see, seeL, S.after, flatC]
  rw [h4] at e54
  by_cases h5 : ¬ s.objects.length ≤ 16
  · have h5' : (16 : Int) < s.objects.length := by omega
    simp [e40, e53, e54, scopeI, scopeHd, h1, h2, h2', h3, h4, h5, h5', r1, r2, pl29, pureOp, S.see, seeL, S.after, flatC]
  have h5' : ¬ (16 : Int) < s.objects.length := by omega
  have h5 : s.objects.length ≤ 16 := by omega
  by_cases h6 : ¬ s.uses.length ≤ 40
  · have h6' : (40 : Int) < s.uses.length := by omega
    simp [e40, e53, e54, scopeI, scopeHd, h1, h2, h2', h3, h4, h5, h5', h6, h6', r1, r2, pl29, pureOp, S.see, seeL, S.after, flatC]
  have h6' : ¬ (40 : Int) < s.uses.length := by omega
  have h6 : s.uses.length ≤ 40 := by omega
  have hd : scopeHd s = true := by simp [scopeHd, h1, h2, h3, h4, h5, h6]
  have e55 := c60_eq s.imports (by omega)
  simp [e40, e53, e54, e55, h1, h2, h2', h3, h4, h5, h5', h6, h6', r1, r2, pl29, pureOp, S.see, seeL, S.after, flatC]
  have hall : limL strLim (s.imports ++ s.objects.map Obj.name) := by
    refine ⟨by simp [lim]; omega, fun x hx => ?_⟩
    rcases List.mem_append.1 hx with hx | hx
    · exact l2.2 x hx
    · obtain ⟨o, ho, rfl⟩ := List.mem_map.1 hx
      exact (l4.2 o ho).1
  refine lp_list s.objects (fun i t => t.e 0 = .ladr [s.v] 0 0 ∧ t.e 68 = .lst (s.objects.map Obj.v) ∧ t.e 69 = .int .i64 s.objects.length ∧ t.e 70 = .int .i64 i ∧ hasR t (t.e 3) 1 ((s.imports ++ (s.objects.take i).map Obj.name).map .str) ∧ allI (objAtI s) s.objects i = true) ?_ ?_ ?_
  · simp
  · rintro c' L hL i t o hx hi ih ⟨g0, g68, g69, g70, ⟨r, g3, hlt, hR⟩, hal⟩
    have hw : IntKind.i64.wrap ((i : Int) + 1) = ((i + 1 : Nat) : Int) := wrap64 (by omega) (by omega)
    have e56 := c61_eq s o l3.1 (l4.2 o (List.mem_of_getElem? hx))
    simp only [Scp.v, Obj.v] at e56 g0
    have n1 : ¬ r = t.nt := by omega
    have n2 : ¬ r = t.nt + 1 := by omega
    have n3 : ¬ t.nt + 1 = r := by omega
    have hmin : min i s.objects.length = i := by omega
    have r3 : room ⟨1, false, 16, .str ⟨#[]⟩⟩ (s.imports.length + i + 1) := by simp [room]; omega
    cases ho : objIB s.types.length o
    · rw [ho] at e56
      have := allI_no (p := objAtI s) hx (by simp [objAtI, ho])
      simp [-getElem?_pos, List.getElem?_cons_zero, List.getElem?_cons_succ, g0, g68, g69, g70, g3, hR, hL, hi, hx, e56, scopeI, this]
    · rw [ho] at e56
      simp [-getElem?_pos, List.getElem?_cons_zero, List.getElem?_cons_succ, g0, g68, g69, g70, g3, hR, hL, hi, hx, e56, n1, n2, n3, r1, r3, hmin]
      refine ih _ ?_
      simp [g0, g68, g69, g70, hw, allI_succ hx, hal, objAtI, ho, n1, n2, n3, take_succ_at hx]
  · rintro c' t ⟨g0, g68, g69, g70, ⟨r, g3, hlt, hR⟩, hal⟩
    rw [List.take_length] at hR
    simp only [Scp.v] at g0
    simp [g0, g68, g69, g70, g3, hR]
    refine lp_list s.uses (fun i t => t.e 0 = .ladr [s.v] 0 0 ∧ t.e 87 = .lst (s.uses.map Use.v) ∧ t.e 88 = .int .i64 s.uses.length ∧ t.e 89 = .int .i64 i ∧ hasR t (t.e 3) 1 ((s.imports ++ s.objects.map Obj.name).map .str) ∧ allI (useAtI s) s.uses i = true) ?_ ?_ ?_
    · simp [g0, g3, hR, hlt]
    · rintro c2 L2 hL2 i t2 u hx hi ih ⟨k0, k87, k88, k89, ⟨r2, k3, hlt2, hR2⟩, hal2⟩
      have hw : IntKind.i64.wrap ((i : Int) + 1) = ((i + 1 : Nat) : Int) := wrap64 (by omega) (by omega)
      have hul := l5.2 u (List.mem_of_getElem? hx)
      have e57 := c62_eq s.imports u.mod l2.1
      have e40 := c57_eq u.name hul.2
      have e58 := c63_eq (s.uses.take i) u (by simp [lim]; omega)
      rw [List.map_take] at e58
      simp only [Use.v] at e58
      simp only [Scp.v] at k0
      have hii : (i : Int) ≤ s.uses.length := by omega
      have n1 : ¬ r2 = t2.nt := by omega
      have no : useAtI s i u = false → scopeI s = false := fun hn => by
        have := allI_no hx hn
        simp [scopeI, this]
      have go : ∀ s', useAtI s i u = true → s'.e 0 = .ladr [s.v] 0 0 → s'.e 87 = .lst (s.uses.map Use.v) → s'.e 88 = .int .i64 s.uses.length → s'.e 89 = .int .i64 ((i + 1 : Nat) : Int) → s'.e 3 = .own r2 → r2 < s'.nt → s'.R r2 = some ⟨1, (s.imports ++ s.objects.map Obj.name).map .str, true⟩ → L2 s' := fun s' hy a0 a1 a2 a3 a4 a5 a6 =>
        ih s' ⟨a0, a1, a2, a3, ⟨r2, a4, a5, a6⟩, by rw [allI_succ hx, hal2, hy]; rfl⟩
      cases b1 : hasB s.imports u.mod <;> cases b2 : nameB u.name <;> cases b3 : (s.uses.take i).any (sameUseB u)
      all_goals
        rw [b1] at e57
        rw [b2] at e40
        rw [b3] at e58
        simp [-getElem?_pos, List.getElem?_cons_zero, List.getElem?_cons_succ, k0, k87, k88, k89, k3, hR2, hL2, hi, hx, hii, e57, e40, e58, n1]
        first
        | (apply no; simp [useAtI, b1, b2, b3]; done)
        | (apply go <;> simp [useAtI, b1, b2, b3, k0, k87, k88, k89, k3, hR2, hw, hlt2, n1]; done)
        | skip
    · rintro c2 t2 ⟨k0, k87, k88, k89, ⟨r2, k3, hlt2, hR2⟩, hal2⟩
      have hsc : scopeI s = unlikeB (s.imports ++ s.objects.map Obj.name) := by simp [scopeI, hd, hal, hal2]
      have e53 := c58_eq _ hall
      generalize s.imports ++ s.objects.map Obj.name = nm at hsc e53 hR2
      simp [k0, k87, k88, k89, k3, hR2, hsc, e53]
noncomputable def c29 := ctr (fun s : Scp => s.lim) (fun s => [.ladr [s.v] 0 0]) (fun s => (false, .bool (scopeI s)))
theorem inj29 {β : Type} (out : Scp → β) : ∀ a b : Scp, [V.ladr [a.v] 0 0] = [V.ladr [b.v] 0 0] → out a = out b := by
  intro a b h
  simp only [List.cons.injEq, and_true, V.ladr.injEq] at h
  rw [Scp.v_inj h]
theorem c29_eq (s : Scp) (h : s.lim) : c29 [.ladr [s.v] 0 0] = some (false, .bool (scopeI s)) := ctr_eq (inj29 _) s h rfl
theorem c29_ok : COK Tryz.prog (29, c29) := ctr_ok fun s h => f29_ok s h
end Go.TM.Tryz
end
