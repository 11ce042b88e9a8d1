/- A part of the proof: RD, RE, RF, RG. -/
import Derived.Test.YtgpkbmekdmpgoaaGreatDoorK13
import Derived.Tactics
import Derived.Tactics2
import Derived.Defers
import Derived.Recover
import Derived.Laws.Pointers
set_option linter.unusedVariables false
set_option linter.unusedSimpArgs false
section
set_option maxHeartbeats 4000000
set_option maxRecDepth 20000
namespace Go.TM.Tryz
open Go Go.TM Go.Proofs
theorem f200_ntmps : Tryz.f200.ntmps = 16 := rfl
theorem ta193 (v : Value) (w : World) : (Instr.typeAssert (.iface 193 v) 20 193 true).run Tryz.prog w = .ok (.tuple #[v, .bool true]) w := by
  have h := und193
  cases hu : Tryz.prog.underlying 193 with
  | none => rw [hu] at h; cases h
  | some d =>
    rw [hu] at h
    unfold Instr.typeAssert
    simp only [Sem.run_bind, run_underlying hu, Result.andThen_ok]
    cases d <;> first | rfl | cases h
noncomputable def caughtW (w : World) (b : Nat) (c k : Int) : World := ((w.alloc (.cells #[.int .i64 c, .int .i64 k] 193)).setCell ⟨b, 0, none⟩ (.int .i64 c)).setCell ⟨b, 1, none⟩ (.int .i64 k)
theorem catch_fault (b : Nat) (c k : Int) (older : List PanicEntry) (w : World) (hb : w.heap[b]? = some (.cells #[.int .i64 0, .int .i64 0] 193 (0, 0))) :
    CallsD Tryz.prog 200 #[.pointer (some ⟨b, 0, none⟩)] (.panicking ({ v := .iface 193 (.agg #[.int .i64 c, .int .i64 k]), recovered := false } :: older)) w fun e u' w' =>
      e = .returned (.tuple #[]) ∧ u' = .panicking ({ v := .iface 193 (.agg #[.int .i64 c, .int .i64 k]), recovered := true } :: older) ∧ w' = caughtW w b c k := by
  have hlt : b < w.heap.size := by
    rw [Array.getElem?_eq_some_iff] at hb
    exact hb.1
  have hA : ∀ X, (w.alloc X).heap[b]? = some (.cells #[.int .i64 0, .int .i64 0] 193 (0, 0)) := fun X => by
    rw [← hb]
    have e : (w.alloc X).heap = w.heap.push X := rfl
    rw [e]
    simp [Array.getElem?_push, Nat.ne_of_lt hlt]
  have g0 : ∀ X, (w.alloc X).cell? ⟨b, 0, none⟩ = some (.int .i64 0) := fun X => by simp [World.cell?, hA]
  have g1 : ∀ X, (w.alloc X).cell? ⟨b, 1, none⟩ = some (.int .i64 0) := fun X => by simp [World.cell?, hA]
  have z0 : ∀ X o, (w.alloc X).frozen? ⟨b, o, none⟩ = false := fun X o => by simp [World.frozen?, hA]
  refine callsD_of_wpS Tryz.func200 rfl fun c₀ cs hu => ?_
  apply wpS_seq
  apply wpS_region
  simp [wpOpsS, go_sem, recoverD, hu, f200_ntmps, Exit.thenS]
  refine wpS_of_wp ?_
  refine wp_seq (wp_region ?_)
  simp [wpOps, go_sem, Exit.thenS]
  repeat apply Or.inl
  refine wp_cond (t := true) (by simp [Act.eval, Array.replicate]) ?_
  simp only [if_true]
  refine wp_seq (wp_region ?_)
  simp [wpOps, go_sem, Exit.thenS, ta193]
  repeat apply Or.inl
  refine wp_seq (wp_seq (wp_region ?_))
  simp [wpOps, go_sem, Exit.thenS]
  repeat apply Or.inl
  refine wp_cond (t := false) (by simp [Act.eval, Array.replicate]) ?_
  simp only [Bool.false_eq_true, if_false]
  refine wp_skip ?_
  simp only [Exit.then]
  refine wp_region ?_
  simp [wpOps, go_sem, Exit.thenS, bodyPostS, g0, g1, z0, results, Tryz.f200, caughtW]
end Go.TM.Tryz
end
section
set_option maxHeartbeats 4000000
set_option maxRecDepth 20000
namespace Go.TM.Tryz
open Go Go.TM Go.Proofs
theorem catch_idle200 (p : Addr) (w : World) :
    CallsD Tryz.prog 200 #[.pointer (some p)] .returning w fun e u' w' => e = .returned (.tuple #[]) ∧ u' = .returning ∧ w' = w := by
  refine callsD_of_wpS Tryz.func200 rfl fun c₀ cs hu => ?_
  apply wpS_seq
  apply wpS_region
  simp [wpOpsS, go_sem, recoverD, hu, f200_ntmps, Exit.thenS]
  refine wpS_of_wp ?_
  refine wp_seq (wp_region ?_)
  simp [wpOps, go_sem, Exit.thenS]
  repeat apply Or.inl
  refine wp_cond (t := false) (by simp [Act.eval, Array.replicate]) ?_
  simp only [Bool.false_eq_true, if_false]
  refine wp_skip ?_
  cases c₀
  simp_all [bodyPostS, results, Tryz.f200]
theorem set2_heap (w : World) (b : Nat) (x y : Value) (i : Nat) : ((w.setCell ⟨b, 0, none⟩ x).setCell ⟨b, 1, none⟩ y).heap[i]? = if b = i then (w.heap[i]?.map fun o => match o with | .cells c elem frozen => .cells ((c.setIfInBounds 0 x).setIfInBounds 1 y) elem frozen | o => o) else w.heap[i]? := by
  simp only [World.setCell, Array.getElem?_modify]
  split
  · cases w.heap[i]? with
    | none => rfl
    | some o => cases o <;> rfl
  · rfl
theorem caughtW_at {w : World} {b : Nat} (c k : Int) (hb : w.heap[b]? = some (.cells #[.int .i64 0, .int .i64 0] 193 (0, 0))) : (caughtW w b c k).heap[b]? = some (.cells #[.int .i64 c, .int .i64 k] 193 (0, 0)) := by
  have hlt : b < w.heap.size := by
    rw [Array.getElem?_eq_some_iff] at hb
    exact hb.1
  unfold caughtW
  rw [set2_heap, if_pos rfl]
  have e : (w.alloc (.cells #[.int .i64 c, .int .i64 k] 193)).heap = w.heap.push (.cells #[.int .i64 c, .int .i64 k] 193) := rfl
  rw [e, Array.getElem?_push, if_neg (Nat.ne_of_lt hlt), hb]
  rfl
theorem guarded_calls (q : Addr) (w : World) (R : Ending → World → Prop)
    (H : Calls Tryz.prog 155 #[.pointer (some q)] (w.alloc (.cells #[.int .i64 0, .int .i64 0] 193)) fun e w2 => w2.heap[w.heap.size]? = some (.cells #[.int .i64 0, .int .i64 0] 193 (0, 0)) ∧
      ((∃ v, e = .returned v ∧ R (.returned (.agg #[.int .i64 0, .int .i64 0])) ((w2.setCell ⟨w.heap.size, 0, none⟩ (.int .i64 0)).setCell ⟨w.heap.size, 1, none⟩ (.int .i64 0))) ∨
       (∃ c k, e = .panicked (fault 193 c k) ∧ R (.returned (.agg #[.int .i64 c, .int .i64 k])) (caughtW w2 w.heap.size c k)))) :
    Calls Tryz.prog 154 #[.func (.func 155) #[] #[.pointer (some q)]] w R := by
  have hmf : ∀ (fn : Fn) (first cap : Array Value) (w : World), (Instr.makeFunc fn first cap).run Tryz.prog w = .ok (.func fn first cap) w := fun _ _ _ _ => rfl
  have hn : Tryz.f154.ntmps = 7 := rfl
  refine calls_of_wp_defers Tryz.func154 rfl ?_
  refine wp_seq (wp_region ?_)
  simp [wpOps, go_sem, hn]
  repeat apply Or.inl
  refine wp_seq (wp_region ?_)
  simp [wpOps, go_sem, hmf]
  repeat apply Or.inl
  refine wp_seq (wp_region ?_)
  simp [wpOps, go_sem]
  repeat apply Or.inl
  refine H.mono ?_
  rintro e w2 ⟨h2, hR⟩
  have g0 : w2.cell? ⟨w.heap.size, 0, none⟩ = some (.int .i64 0) := by simp [World.cell?, h2]
  have g1 : w2.cell? ⟨w.heap.size, 1, none⟩ = some (.int .i64 0) := by simp [World.cell?, h2]
  have z0 : ∀ o, w2.frozen? ⟨w.heap.size, o, none⟩ = false := fun o => by simp [World.frozen?, h2]
  rcases hR with ⟨v, rfl, hR⟩ | ⟨c, k, rfl, hR⟩
  · simp only [Exit.then]
    refine wp_seq (wp_region ?_)
    simp [wpOps, go_sem, g0, g1, z0]
    repeat apply Or.inl
    refine wp_ret ?_
    simp only [bodyPostD]
    refine leaves_cons (f := 200) (args := #[.pointer (some ⟨w.heap.size, 0, none⟩)]) (by simp) (by simp [go_sem]) ?_
    refine (catch_idle200 ⟨w.heap.size, 0, none⟩ _).mono ?_
    rintro e u' w'' ⟨rfl, rfl, rfl⟩
    simp [Leaves, settle, results, Tryz.f154, go_sem, g0, g1, z0]
    exact hR
  · simp only [Exit.then, bodyPostD]
    refine leaves_cons (f := 200) (args := #[.pointer (some ⟨w.heap.size, 0, none⟩)]) (by simp) (by simp [go_sem]) ?_
    refine (catch_fault w.heap.size c k [] _ h2).mono ?_
    rintro e u' w'' ⟨rfl, rfl, rfl⟩
    have hc := caughtW_at c k h2
    have k0 : (caughtW w2 w.heap.size c k).cell? ⟨w.heap.size, 0, none⟩ = some (.int .i64 c) := by simp [World.cell?, hc]
    have k1 : (caughtW w2 w.heap.size c k).cell? ⟨w.heap.size, 1, none⟩ = some (.int .i64 k) := by simp [World.cell?, hc]
    simp [Leaves, settle, results, Tryz.f154, go_sem, k0, k1]
    exact hR
end Go.TM.Tryz
end
section
set_option maxHeartbeats 4000000
set_option maxRecDepth 20000
namespace Go.TM
open Go
theorem one_more {n : Nat} {M M'' : Mem} {W W2 W3 : World} {s s2 : S} {a : Act} {X : Go.Obj} (h : St n M W s a) (k1 : St n M'' W2 s2 a) (k3 : Evo M (W.alloc X) M'' W2) (ho : W3.os = W2.os) (ht : W3.tape = W2.tape) (hp : W3.output = W2.output)
    (hz : W2.heap.size ≤ W3.heap.size) (hs : ∀ i, i ≠ W.heap.size → i < W2.heap.size → W3.heap[i]? = W2.heap[i]?) : St n M'' W3 s2 a ∧ Evo M W M'' W3 := by
  have e : (W.alloc X).heap = W.heap.push X := rfl
  have z1 : (W.alloc X).heap.size = W.heap.size + 1 := by rw [e]; simp
  have hω : M.ω W.heap.size = none := by
    cases hh : M.ω W.heap.size with
    | none => rfl
    | some l => have := h.mem.lt _ _ hh; omega
  have hω2 : M''.ω W.heap.size = none := by
    cases hh : M''.ω W.heap.size with
    | none => rfl
    | some l =>
      rcases k3.lab _ _ hh with h1 | h1
      · exact absurd hω h1
      · omega
  have hF2 : ¬ M''.F W.heap.size := fun hh => by
    rcases k3.frz _ hh with h1 | h1 | h1
    · have := (h.mem.frz _ h1).2; omega
    · exact absurd hω h1
    · omega
  have hsame : ∀ b, (M''.F b ∨ M''.ω b ≠ none) → W3.heap[b]? = W2.heap[b]? := fun b hb => by
    rcases hb with hb | hb
    · exact hs b (fun e => hF2 (e ▸ hb)) (k1.mem.frz b hb).2
    · obtain ⟨x, hx⟩ := Option.ne_none_iff_exists'.1 hb
      exact hs b (fun e => by rw [e, hω2] at hx; cases hx) (k1.mem.lt b x hx)
  have hk : Keep M'' W2 M'' W3 := ⟨fun _ h => h, fun b hb => hsame b (.inl hb), fun _ _ => rfl, fun _ _ _ _ => rfl, fun _ _ => rfl, Nat.le_refl _, Nat.le_refl _⟩
  refine ⟨⟨k1.size, k1.defers, fun x hx => hk.all (k1.slot x hx), k1.mem.world hz hsame⟩, ?_⟩
  have z2 := k3.size
  refine ⟨ho.trans k3.os, ht.trans k3.tape, hp.trans k3.output, by omega, fun b hb hbn => ?_, fun b l hl => ?_, fun b hb => ?_, k3.frz0, k3.nt, k3.nb, k3.ρ, k3.β⟩
  · rw [hs b (by omega) (by omega), k3.old b (by omega) hbn, e, Array.getElem?_push, if_neg (by omega)]
  · rcases k3.lab b l hl with h1 | h1
    · exact .inl h1
    · exact .inr (by omega)
  · rcases k3.frz b hb with h1 | h1 | h1
    · exact .inl h1
    · exact .inr (.inl h1)
    · exact .inr (.inr (by omega))
theorem one_at {n : Nat} {M M'' : Mem} {W W2 : World} {s : S} {a : Act} {X : Go.Obj} (h : St n M W s a) (k3 : Evo M (W.alloc X) M'' W2) : W2.heap[W.heap.size]? = some X := by
  have e : (W.alloc X).heap = W.heap.push X := rfl
  have z1 : (W.alloc X).heap.size = W.heap.size + 1 := by rw [e]; simp
  have hω : M.ω W.heap.size = none := by
    cases hh : M.ω W.heap.size with
    | none => rfl
    | some l => have := h.mem.lt _ _ hh; omega
  rw [k3.old _ (by omega) hω, e]
  simp
end Go.TM
namespace Go.TM.Tryz
open Go Go.TM Go.Proofs
theorem f155_calls (p : Addr) (q : Value) (w : World) (R : Ending → World → Prop) (hc : w.cell? p = some q) (H : Calls Tryz.prog 156 #[q, .bool true] w fun e w' => (∃ v, e = .returned v ∧ R (.returned (.tuple #[])) w') ∨ (∃ ch, e = .panicked ch ∧ R (.panicked ch) w')) : Calls Tryz.prog 155 #[.pointer (some p)] w R := by
  have hn : Tryz.f155.ntmps = 3 := rfl
  refine calls_of_wp Tryz.func155 rfl ?_
  refine wp_region ?_
  simp [wpOps, go_sem, hc, hn]
  repeat apply Or.inl
  refine H.mono ?_
  rintro e w' (⟨v, rfl, h⟩ | ⟨ch, rfl, h⟩)
  · simp [bodyPost, results, Tryz.f155, h]
  · simp [bodyPost, h]
end Go.TM.Tryz
end
section
set_option maxHeartbeats 4000000
set_option maxRecDepth 20000
namespace Go.TM
open Go
theorem alloc_clsW (W : World) (X : Go.Obj) : Cls W (W.alloc X) := by
  refine ⟨rfl, rfl, rfl, ?_, fun b hb => ?_⟩
  · have e : (W.alloc X).heap = W.heap.push X := rfl
    rw [e]; simp
  · have e : (W.alloc X).heap = W.heap.push X := rfl
    rw [e, Array.getElem?_push, if_neg (by omega)]
end Go.TM
namespace Go.TM.Tryz
open Go Go.TM Go.Proofs
noncomputable def gAns (l : List Tok) (z : Int) (p : KS) : Ans := ⟨true, .tup [], [], [kB l z (beginK l p).2]⟩
noncomputable def gRes (l : List Tok) (z : Int) (p : KS) : V := if (beginK l p).1 = true then .agg [.int .i64 0, .int .i64 0] else .agg [.int .i64 20, .int .i64 (placeS l z (beginK l p).2.at_)]
noncomputable def rGuard {Γ : Type} (l : List Tok) (z : Int) (p : KS) : Rule Γ := fun s g K =>
  (s.e 26 = .fn 155 [.ptr 1 0] ∧ s.B 1 = some (.ptr 0 0) ∧ argsG s [0] [] [.ptr 0 0, .bool true] = [.ptr 0 0, .bool true] ∧ s.cont 0 = kB l z p ∧ (ansR (gAns l z p) [0] [] [.ptr 0 0, .bool true] s).c) ∧
    K ((ansR (gAns l z p) [0] [] [.ptr 0 0, .bool true] s).s.put (some 27) (gRes l z p)) g
theorem rGuard_ok {Γ : Type} {n : Nat} {Inv : Γ → Mem → World → Prop} (hI : ∀ g M W M' W', Inv g M W → Evo M W M' W' → Inv g M' W') {l : List Tok} {z : Int} {p : KS} (hk : KOk l p) (him : p.imps.length ≤ p.at_) {o : Oper} {c : Go.Call} (ho : o.op = .call c) (hg : c.callee = .value (.func 154)) (hargs : c.args.toList = [.tmp 26]) (hd : o.dst = some 27) (hn : 27 < n) :
    RuleOK Inv Tryz.prog n o (rGuard l z p) := by
  intro s g a W M K Q h hi ⟨⟨h26, hB1, harg, hcont, hc⟩, hK⟩
  have hs26 := h.slot 26 (by omega)
  rw [h26] at hs26
  obtain ⟨cs, hval, hcaps⟩ := hs26
  have hcs : cs = [.pointer (some ⟨M.β 1, 0, none⟩)] := by
    match cs, hcaps with
    | [y], hcaps =>
      obtain ⟨hy, -⟩ := hcaps
      rcases hy with ⟨b, off, e1, e2, e3⟩ | ⟨xs, i, off, e1, -⟩
      · cases e1
        rw [e3]
      · cases e1
  subst hcs
  obtain ⟨hb1, cs1, ty1, hheap1, hω1, hl1⟩ := h.mem.box 1 _ hB1
  have hcs1 : cs1 = #[.pointer (some ⟨M.β 0, 0, none⟩)] ∧ 0 < M.nb := by
    obtain ⟨cl⟩ := cs1
    match cl, hl1 with
    | [y], hl1 =>
      obtain ⟨hy, -⟩ := hl1
      exact ⟨by rw [hy.2], hy.1⟩
  obtain ⟨rfl, hb0⟩ := hcs1
  have hev : a.eval (.tmp 26) = .func (.func 155) #[] #[.pointer (some ⟨M.β 1, 0, none⟩)] := by
    simp only [Act.eval]
    exact hval
  have hrun := run_callv (P := Tryz.prog) ho hg (show a.eval (.func 154) = .func (.func 154) #[] ([] : List Value).toArray from rfl) ⟨_, Tryz.func154, by kernel_rfl, by kernel_rfl⟩ W
  rw [List.append_nil, hargs] at hrun
  simp only [List.map_cons, List.map_nil, hev] at hrun
  unfold Oper.wp
  rw [hrun, Oper.upon_enter]
  refine guarded_calls ⟨M.β 1, 0, none⟩ W _ ?_
  generalize hW1 : W.alloc (.cells #[.int .i64 0, .int .i64 0] 193) = W1
  have h1 : St n M W1 s a := by
    rw [← hW1]
    exact h.cls (alloc_clsW W _)
  have hheap1' : W1.heap[M.β 1]? = some (.cells #[.pointer (some ⟨M.β 0, 0, none⟩)] ty1 (0, 0)) := by
    rw [← hheap1, ← hW1]
    exact (alloc_clsW W _).block _ (h.mem.lt _ _ hω1)
  refine f155_calls _ (.pointer (some ⟨M.β 0, 0, none⟩)) _ _ (by simp [World.cell?, hheap1']) ?_
  have ha : All2 (SR2 M W1) [V.ptr 0 0, .bool true] [.pointer (some ⟨M.β 0, 0, none⟩), .bool true] := ⟨⟨hb0, rfl⟩, rfl, trivial⟩
  obtain ⟨c1, c2, c3, c4, c5, c6, c7⟩ := id hc
  have hUt : (given s [] [V.ptr 0 0, .bool true] ++ ([0] : List Nat).flatMap (boxU s)).map tokU = (given s [] [V.ptr 0 0, .bool true]).flatMap tokG ++ ([0] : List Nat).flatMap s.boxToks := by
    rw [List.map_append, given_tok]
    congr 1
    rw [List.flatMap_cons, List.flatMap_cons, List.map_append, boxU_toks]
    rfl
  obtain ⟨e1, e2, e3⟩ := enter_ok h1.mem ha c1 (fun k hk => List.all_eq_true.1 c2 k hk) (by rw [hUt]; exact c3) (by rw [hUt]; exact c4)
  rw [harg, List.map_cons, List.map_nil, hcont] at e1
  rw [harg] at e2
  have fin : ∀ (v : Value) (M' : Mem) (W2 : World) (s' : S) (sv : V) (W3 : World) (val : Value), Post ([0] : List Nat).length (gAns l z p) (M.enter W1 s (given s [] [V.ptr 0 0, .bool true] ++ ([0] : List Nat).flatMap (boxU s)) [0] (ftoks (kept [] [V.ptr 0 0, .bool true]))) W1 M' W2 s' sv v →
      W3.os = W2.os → W3.tape = W2.tape → W3.output = W2.output → W2.heap.size ≤ W3.heap.size → (∀ i, i ≠ W.heap.size → i < W2.heap.size → W3.heap[i]? = W2.heap[i]?) → (∀ M1 W1, SR M1 W1 (gRes l z p) val) →
      W2.heap[W.heap.size]? = some (.cells #[.int .i64 0, .int .i64 0] 193 (0, 0)) ∧ ∃ M' s' g', St n M' W3 s' (a.put o.dst val) ∧ Inv g' M' W3 ∧ K s' g' := by
    intro v M' W2 s' sv W3 val post q1 q2 q3 q4 q5 q6
    obtain ⟨M'', k1, k2, k3⟩ := call_end h1 hc post e3
    rw [← hW1] at k3
    obtain ⟨r1, r2⟩ := one_more h k1 k3 q1 q2 q3 q4 q5
    refine ⟨one_at h k3, M'', _, g, ?_, hI _ _ _ _ _ hi r2, hK⟩
    rw [hd]
    exact r1.putO (by simp; omega) (q6 _ _)
  have hsz : ∀ (w : World) (b : Nat) (x y : Value), ((w.setCell ⟨b, 0, none⟩ x).setCell ⟨b, 1, none⟩ y).heap.size = w.heap.size := fun w b x y => by simp [World.setCell]
  cases hb : (beginK l p).1 with
  | true =>
    have gk := f156_ok l z p hk him hb
    refine (gk.calls _ W1 _ e1 e2).mono ?_
    rintro e W2 ⟨v, M', s', sv, rfl, post⟩
    obtain ⟨f1, f2⟩ := fin v M' W2 s' sv ((W2.setCell ⟨W.heap.size, 0, none⟩ (.int .i64 0)).setCell ⟨W.heap.size, 1, none⟩ (.int .i64 0)) (.agg #[.int .i64 0, .int .i64 0]) post rfl rfl rfl (by rw [hsz]; exact Nat.le_refl _) (fun i hi _ => by rw [set2_heap, if_neg (fun h => hi h.symm)]) (fun M1 W1 => by
      unfold gRes
      rw [if_pos hb]
      exact ⟨[_, _], rfl, rfl, rfl, trivial⟩)
    exact .inl ⟨v, rfl, f1, .inl ⟨_, rfl, f2⟩⟩
  | false =>
    have gk := f156_pan l z p hk him hb
    refine (gk.calls _ W1 _ e1 e2).mono ?_
    rintro e W2 ⟨M', s', rfl, post⟩
    obtain ⟨f1, f2⟩ := fin (.tuple #[]) M' W2 s' (.tup []) (caughtW W2 W.heap.size 20 (placeS l z (beginK l p).2.at_)) (.agg #[.int .i64 20, .int .i64 (placeS l z (beginK l p).2.at_)]) post rfl rfl rfl (by
        unfold caughtW
        rw [hsz]
        exact (alloc_clsW W2 _).size) (fun i hi hlt => by
        unfold caughtW
        rw [set2_heap, if_neg (fun h => hi h.symm)]
        exact (alloc_clsW W2 _).block i hlt) (fun M1 W1 => by
      unfold gRes
      rw [hb, if_neg (by simp)]
      exact ⟨[_, _], rfl, rfl, rfl, trivial⟩)
    exact .inr ⟨_, rfl, f1, .inr ⟨_, _, rfl, f2⟩⟩
end Go.TM.Tryz
end
