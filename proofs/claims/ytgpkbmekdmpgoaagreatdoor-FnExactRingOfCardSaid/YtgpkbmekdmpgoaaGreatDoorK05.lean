/- A part of the proof: UK, UI, UL. -/
import Derived.Test.YtgpkbmekdmpgoaaGreatDoorK04
set_option linter.unusedVariables false
set_option linter.unusedSimpArgs false
section
set_option maxHeartbeats 4000000
namespace Go.TM
open Go
section
variable {P : Program} {E : Env} {n : Nat} {M0 : Mem} {W0 : World}
theorem ints_upd {M : Mem} {W : World} {s : S} {t b o c : Nat} {zs zs' : List Int} {cs cur : Array Value} {ty : TypeId} (h : MemOK M W s) (hR : s.R t = some ⟨1, zs.map (V.int .i64), true⟩) (hρ : M.ρ t = .slice (some ⟨b, o, none⟩) zs.length c) (hne : zs ≠ []) (hl : zs'.length = zs.length)
    (hb : W.heap[b]? = some (.cells cs ty (0, 0))) (hsz : cur.size = cs.size) (hcur : ∀ (j : Nat) (z : Int), zs'[j]? = some z → cur[o + j]? = some (.int .i64 z)) :
    MemOK M (W.setRow b cur) (s.setR t (some ⟨1, zs'.map (V.int .i64), true⟩)) ∧ Evo M W M (W.setRow b cur) := by
  obtain ⟨htn, hrow⟩ := h.row t _ hR
  have hW' : (W.setRow b cur).heap[b]? = some (.cells cur ty (0, 0)) := setRow_heap W b cs cur ty (0, 0) hb
  have hrow' : M.ω b = some (.tok t) ∧ Row M (W.setRow b cur) t ⟨1, zs'.map (V.int .i64), true⟩ := by
    rcases hrow with ⟨_, B, h1, h2, h3⟩ | ⟨hw, _⟩
    · obtain ⟨b', o', c', cs', ty', e, hB, hb', hn, hm, hcs, hc⟩ := own_ints h1 hne
      rw [hρ] at e
      cases e
      rw [hb] at hb'
      cases hb'
      have hωb := h2 _ hB
      refine ⟨hωb, .inl ⟨rfl, fun x => x = b, ?_, ?_, ?_⟩⟩
      · rw [hρ, ← hl]
        exact ints_own hW' (by omega) hm (by rw [hsz]; exact hcs) hcur
      · rintro x rfl
        exact hωb
      · intro j i z ys hl'
        obtain ⟨_, _, _, e⟩ := leafAt_ints hl'
        cases e
    · cases hw
  obtain ⟨hωb, hrow'⟩ := hrow'
  have hother : ∀ x, M.ω x ≠ some (.tok t) → (W.setRow b cur).heap[x]? = W.heap[x]? := fun x hx => setRow_other W b x _ (fun e => by subst e; exact hx hωb)
  have hk : Keep M W M (W.setRow b cur) := ⟨fun _ h => h, fun x hx => hother x (by rw [(h.frz x hx).1]; simp), fun _ _ => rfl, fun _ _ _ _ => rfl, fun _ _ => rfl, Nat.le_refl _, Nat.le_refl _⟩
  refine ⟨⟨h.nt, h.nb, fun k cv hk' => ?_, fun t' r hr => ?_, fun x hx => ⟨(h.frz x hx).1, by simpa using (h.frz x hx).2⟩, fun x l hx => by simpa using h.lt x l hx, h.tok, h.bx⟩, ⟨rfl, rfl, rfl, by simp, fun x _ hx => hother x (by rw [hx]; simp), fun x l hx => .inl (by rw [hx]; simp), fun x hx => .inl hx, fun _ h => h, Nat.le_refl _, Nat.le_refl _, fun _ _ => rfl, fun _ _ => rfl⟩⟩
  · obtain ⟨k1, cs1, ty1, k2, k3, k4⟩ := h.box k cv hk'
    exact ⟨k1, cs1, ty1, by rw [hother _ (by rw [k3]; simp)]; exact k2, k3, hk.leaves k4⟩
  · by_cases ht' : t' = t
    · subst ht'
      simp only [S.setR, if_pos] at hr
      cases hr
      exact ⟨htn, hrow'⟩
    · simp only [S.setR, if_neg ht'] at hr
      obtain ⟨k1, k2⟩ := h.row t' r hr
      exact ⟨k1, hk.row k1 (fun _ x hx => ⟨hx, hother x (by rw [hx]; simp [ht'])⟩) k2⟩
theorem run_copyI (w : World) (t tx ty e : TypeId) (i : TypeInfo) (ht : P.underlying t = some (.slice e)) (hi : P.info? e = some i) (his : i.size = 1) (b p m c : Nat) (y : Value) (k : Nat) (ys : List Int) (hlen : ∀ w', (Builtin.lenOf y).run P w' = .ok k w')
    (hk : min k m = ys.length) (hc : (Builtin.firstCells 1 ys.length y).run P w = .ok (ys.map (Value.int .i64)).toArray w) (cs : Array Value) (et : TypeId) (hb : w.heap[b]? = some (.cells cs et (0, 0))) (hfit : p + ys.length ≤ cs.size) :
    (Builtin.copy_ #[t, tx] ty #[.slice (some ⟨b, p, none⟩) m c, y]).run P w = .ok (.int .i64 ys.length) (w.setRow b (cs.toList.take p ++ ys.map (Value.int .i64) ++ cs.toList.drop (p + ys.length)).toArray) := by
  have hst := run_storeCells_at P b p et (ys.map (Value.int .i64)) 0 cs w hb (by simpa using hfit) (fun v hv => by
    obtain ⟨z, _, rfl⟩ := List.mem_map.1 hv
    rfl)
  simp only [Nat.add_zero, List.length_map] at hst
  have hk' : Nat.min k m = ys.length := hk
  simp [Builtin.copy_, run_underlying ht, sizeOf, typeInfo, hi, his, hlen, hk', hc, hst, goInt]
def rCopy1 (x y : Operand) (d : Option Tmp) : Rule (Option DG) := fun s g K =>
  ∃ t zs v, needs true s [x, y] ∧ opnd s x = .own t ∧ opnd s y = .lst [.int .i64 v] ∧ s.R t = some ⟨1, List.map (V.int .i64) zs, true⟩ ∧ zs ≠ [] ∧ K ((s.setR t (some ⟨1, List.map (V.int .i64) (v :: zs.drop 1), true⟩)).put d (.int .i64 1)) g
def rCopyI (zs : List Int) (l : Nat) (x y : Operand) (d : Option Tmp) : Rule (Option DG) := fun s g K =>
  ∃ D, g = some D ∧ needs true s [x, y] ∧ opnd s x = .raw (cutH 1 D l zs.length) ∧ opnd s y = .raw (cutH 1 D 0 l) ∧ D.n = zs.length ∧ s.R D.t = some ⟨1, zs.map (V.int .i64), true⟩ ∧
    K ((s.setR D.t (some ⟨1, (zs.take l ++ zs.take (min l (zs.length - l)) ++ zs.drop (l + min l (zs.length - l))).map (V.int .i64), true⟩)).put d (.int .i64 ((min l (zs.length - l) : Nat) : Int))) g
theorem rCopyI_ok (sta : StaOK P E) {o : Oper} {c : Call} {ty e : TypeId} {tt : TI} {x y : Operand} {zs : List Int} {l : Nat} (h0 : 0 < l) (h1 : l < zs.length) (ho : o.op = .call c) (hcal : c.callee = .builtin .copy) (hargs : c.args.toList = [x, y]) (htys : c.argTypes.toList = [ty, ty]) (he : E.el ty = some e) (ht : E.ti e = some tt) (hz : tt.sz = 1) (hok : okO n o = true) :
    RuleOK (InvD M0 W0) P n o (rCopyI zs l x y o.dst) := by
  rintro s g a W M K Q hst hiv ⟨D, rfl, hn, hx, hy, hDn, hR, hK⟩
  simp only [okO, Bool.and_eq_true, List.all_eq_true] at hok
  obtain ⟨hDt, hρ⟩ := hiv.2 D rfl
  have hx' : c.args = #[x, y] := by rw [← Array.toList_inj, hargs]
  have ht' : c.argTypes = #[ty, ty] := by rw [← Array.toList_inj, htys]
  have hmem : ∀ u, u ∈ [x, y] → okOp n u = true := fun u hu => hok.1 u (by
    rw [ho]
    simp only [Op.operands, Call.operands, hcal, hx']
    simpa using hu)
  have vx := opnd_sound hst (hmem x (by simp)) (needs_mem hn (by simp))
  have vy := opnd_sound hst (hmem y (by simp)) (needs_mem hn (by simp))
  rw [hx] at vx
  rw [hy] at vy
  rw [hDn] at hρ
  have hne : zs ≠ [] := by
    rintro rfl
    simp at h1
  rcases (hst.mem.row _ _ hR).2 with ⟨_, B, k1, k2, _⟩ | ⟨hw, _⟩
  · obtain ⟨b, off, cc, cs, et, e1, hB, hb, hcn, hcm, hcs, hc⟩ := own_ints k1 hne
    rw [hρ] at e1
    injection e1 with e1 _ e3
    injection e1 with e1
    injection e1 with e1 e2 _
    subst e1 e2 e3
    have ex : a.eval x = .slice (some ⟨D.b, D.o + l, none⟩) (zs.length - l) (D.c - l) := by
      have h3 : a.eval x = (cutH 1 D l zs.length).val := vx
      rw [h3]
      have : ¬ D.c = l := by omega
      simp only [cutH, Hdr.val, if_neg this, Nat.mul_one]
    have ey : a.eval y = .slice (some ⟨D.b, D.o, none⟩) l D.c := by
      have h3 : a.eval y = (cutH 1 D 0 l).val := vy
      rw [h3]
      simp only [cutH, Hdr.val, Nat.sub_zero, Nat.zero_mul, Nat.add_zero]
      split <;> rfl
    obtain ⟨ie, hie, his, hib, z, hzz, hzr⟩ := (sta.ti e tt ht).info
    rw [hz] at his
    have hu := sta.el ty e he
    generalize hmm : min l (zs.length - l) = m at hK
    have hml : (zs.take m).length = m := by rw [List.length_take]; omega
    have hsrc : (Builtin.firstCells 1 (zs.take m).length (a.eval y)).run P W = .ok ((zs.take m).map (Value.int .i64)).toArray W := by
      have hs := Go.Src.ofSlice (P := P) W hu ⟨D.b, D.o, none⟩ (zs.take m).length D.c ((zs.take m).map (Value.int .i64)) (size := 1) (by simp) (fun j v hv => by
        rw [List.getElem?_map] at hv
        cases hz' : (zs.take m)[j]? with
        | none => rw [hz'] at hv; cases hv
        | some z' =>
          rw [hz'] at hv
          cases hv
          have h5 := hc j z' (by
            rw [List.getElem?_take] at hz'
            split at hz'
            · exact hz'
            · cases hz')
          simp only [Addr.add_lit, World.cell?, hb]
          simpa using h5) (fun v hv => by
        obtain ⟨z', _, rfl⟩ := List.mem_map.1 hv
        rfl)
      rw [ey]
      exact hs.cells
    have hlenR : ∀ w', (Builtin.lenOf (a.eval y)).run P w' = .ok l w' := fun w' => by rw [ey]; rfl
    have hrun := run_copyI (P := P) W ty ty o.type e ie hu hie his D.b (D.o + l) (zs.length - l) (D.c - l) (a.eval y) l (zs.take m) hlenR (by rw [hml]; exact hmm) hsrc cs et hb (by rw [hml, hcs]; omega)
    rw [hml] at hrun
    generalize hcur : (cs.toList.take (D.o + l) ++ (zs.take m).map (Value.int .i64) ++ cs.toList.drop (D.o + l + m)).toArray = cur at hrun
    have htk : (cs.toList.take (D.o + l)).length = D.o + l := by
      rw [List.length_take]
      have : cs.toList.length = cs.size := Array.length_toList
      omega
    have hml2 : ((zs.take m).map (Value.int .i64)).length = m := by rw [List.length_map, hml]
    obtain ⟨q1, q2⟩ := ints_upd (zs' := zs.take l ++ zs.take m ++ zs.drop (l + m)) (cur := cur) hst.mem hR hρ hne (by
      simp only [List.length_append, List.length_take, List.length_drop]
      omega) hb (by
      rw [← hcur]
      simp only [List.size_toArray, List.length_append, htk, hml2, List.length_drop, Array.length_toList]
      omega) (fun j z' hz' => by
      rw [← hcur, List.getElem?_toArray]
      have hl1 : (zs.take l).length = l := by rw [List.length_take]; omega
      by_cases hj : j < l
      · rw [List.append_assoc, List.getElem?_append_left (by rw [htk]; omega), List.getElem?_take_of_lt (by omega), Array.getElem?_toList]
        rw [List.append_assoc, List.getElem?_append_left (by rw [hl1]; exact hj), List.getElem?_take_of_lt hj] at hz'
        exact hc j z' hz'
      · by_cases hj2 : j < l + m
        · rw [List.append_assoc, List.getElem?_append_right (by rw [htk]; omega), htk, List.getElem?_append_left (by rw [hml2]; omega), List.getElem?_map, show D.o + j - (D.o + l) = j - l by omega]
          rw [List.append_assoc, List.getElem?_append_right (by rw [hl1]; omega), hl1, List.getElem?_append_left (by rw [hml]; omega)] at hz'
          rw [hz']
          rfl
        · rw [List.getElem?_append_right (by rw [List.length_append, htk, hml2]; omega), List.length_append, htk, hml2, List.getElem?_drop, Array.getElem?_toList, show D.o + l + m + (D.o + j - (D.o + l + m)) = D.o + j by omega]
          rw [List.getElem?_append_right (by rw [List.length_append, hl1, hml]; omega), List.length_append, hl1, hml, List.getElem?_drop, show l + m + (j - (l + m)) = j by omega] at hz'
          exact hc j z' hz')
    have hkp : Keep M W M (W.setRow D.b cur) := ⟨fun _ h => h, fun x hx => q2.old x (hst.mem.frz x hx).2 (hst.mem.frz x hx).1, fun _ _ => rfl, fun _ _ _ _ => rfl, fun _ _ => rfl, Nat.le_refl _, Nat.le_refl _⟩
    have hrun2 : (execOp a.eval o).run P W = .ok (.value (.int .i64 m)) (W.setRow D.b cur) := by
      rw [← ex] at hrun
      simp only [execOp, ho, resolve, hcal, pure_bind, invoke, builtin, hx', ht']
      simp [hrun]
    have hst2 : St n M (W.setRow D.b cur) (s.setR D.t (some ⟨1, (zs.take l ++ zs.take m ++ zs.drop (l + m)).map (V.int .i64), true⟩)) a := ⟨hst.size, hst.defers, fun y hy => hkp.all (hst.slot y hy), q1⟩
    refine wp_value hrun2 ⟨M, _, _, hst2.putO hok.2 (x := .int .i64 ((m : Nat) : Int)) rfl, ⟨hiv.1.trans q2, hiv.2⟩, hK⟩
  · cases hw
theorem rCopy1_ok (sta : StaOK P E) {o : Oper} {c : Call} {ty e : TypeId} {tt : TI} {x y : Operand} (ho : o.op = .call c) (hcal : c.callee = .builtin .copy) (hargs : c.args.toList = [x, y]) (htys : c.argTypes.toList = [ty, ty]) (he : E.el ty = some e) (ht : E.ti e = some tt) (hz : tt.sz = 1) (hok : okO n o = true) :
    RuleOK (InvD M0 W0) P n o (rCopy1 x y o.dst) := by
  rintro s g a W M K Q hst hiv ⟨t, zs, v, hn, hx, hy, hR, hne, hK⟩
  simp only [okO, Bool.and_eq_true, List.all_eq_true] at hok
  have hx' : c.args = #[x, y] := by rw [← Array.toList_inj, hargs]
  have ht' : c.argTypes = #[ty, ty] := by rw [← Array.toList_inj, htys]
  have hmem : ∀ u, u ∈ [x, y] → okOp n u = true := fun u hu => hok.1 u (by
    rw [ho]
    simp only [Op.operands, Call.operands, hcal, hx']
    simpa using hu)
  have vx := opnd_sound hst (hmem x (by simp)) (needs_mem hn (by simp))
  have vy := opnd_sound hst (hmem y (by simp)) (needs_mem hn (by simp))
  rw [hx] at vx
  rw [hy] at vy
  have ex : a.eval x = M.ρ t := vx.2
  have hl0 : 0 < zs.length := List.length_pos_iff.2 hne
  obtain ⟨ie, hie, his, hib, z, hzz, hzr⟩ := (sta.ti e tt ht).info
  rw [hz] at his
  have hu := sta.el ty e he
  rcases (hst.mem.row _ _ hR).2 with ⟨_, B, k1, k2, _⟩ | ⟨hw, _⟩
  · obtain ⟨b, off, cc, cs, et, e1, hB, hb, hcn, hcm, hcs, hc⟩ := own_ints k1 hne
    obtain ⟨u, Bs, hsrc, hLR, _, _⟩ := (src_lst (M := M) (W := W) (ys := [.int .i64 v]) (sz := 1) (show FR W M.F (.lst _) (a.eval y) from vy) (by simp [vwE, leaves, vw])).src (by omega) (by simp [vwE, leaves, vw]) hu
    have hu0 : u 0 0 = .int .i64 v := by
      have := hLR 0 0 (.int .i64 v) (by simp [leafAt, vwE, leaves, vw])
      generalize u 0 0 = q at this ⊢
      cases this
      rfl
    have hfl : flatU u 1 1 = [Value.int .i64 v] := by simp [flatU, hu0]
    have hsrc2 : Go.Src P 1 ty (a.eval y) 1 [Value.int .i64 v] W := by
      have : ([V.int .i64 v].map vwE).length = 1 := rfl
      rw [this, hfl] at hsrc
      exact hsrc
    have hrun := run_copyI (P := P) W ty ty o.type e ie hu hie his b off zs.length cc (a.eval y) 1 [v] hsrc2.len (by simp; omega) hsrc2.cells cs et hb (by simp; omega)
    simp only [List.length_singleton, List.map_cons, List.map_nil] at hrun
    generalize hcur : (cs.toList.take off ++ [Value.int .i64 v] ++ cs.toList.drop (off + 1)).toArray = cur at hrun
    have htk : (cs.toList.take off).length = off := by
      rw [List.length_take]
      have : cs.toList.length = cs.size := Array.length_toList
      omega
    obtain ⟨q1, q2⟩ := ints_upd (zs' := v :: zs.drop 1) (cur := cur) hst.mem hR e1 hne (by
      simp only [List.length_cons, List.length_drop]
      omega) hb (by
      rw [← hcur]
      simp only [List.size_toArray, List.length_append, htk, List.length_drop, Array.length_toList, List.length_singleton]
      omega) (fun j z' hz' => by
      rw [← hcur, List.getElem?_toArray, List.append_assoc, List.getElem?_append_right (by rw [htk]; omega), htk, show off + j - off = j by omega]
      cases j with
      | zero =>
        simp only [List.getElem?_cons_zero] at hz'
        cases hz'
        rfl
      | succ j =>
        simp only [List.getElem?_cons_succ, List.getElem?_drop] at hz'
        simp only [List.singleton_append, List.getElem?_cons_succ, List.getElem?_drop, Array.getElem?_toList]
        have := hc (1 + j) z' hz'
        rw [show off + 1 + j = off + (1 + j) by omega]
        exact this)
    have hkp : Keep M W M (W.setRow b cur) := ⟨fun _ h => h, fun x hx => q2.old x (hst.mem.frz x hx).2 (hst.mem.frz x hx).1, fun _ _ => rfl, fun _ _ _ _ => rfl, fun _ _ => rfl, Nat.le_refl _, Nat.le_refl _⟩
    have hrun2 : (execOp a.eval o).run P W = .ok (.value (.int .i64 1)) (W.setRow b cur) := by
      rw [← e1, ← ex] at hrun
      simp only [execOp, ho, resolve, hcal, pure_bind, invoke, builtin, hx', ht']
      simp [hrun]
    have hst2 : St n M (W.setRow b cur) (s.setR t (some ⟨1, (v :: zs.drop 1).map (V.int .i64), true⟩)) a := ⟨hst.size, hst.defers, fun y hy => hkp.all (hst.slot y hy), q1⟩
    refine wp_value hrun2 ⟨M, _, _, hst2.putO hok.2 (x := .int .i64 1) rfl, ⟨hiv.1.trans q2, hiv.2⟩, hK⟩
  · cases hw
def rCopyX (x y : Operand) (d : Option Tmp) : Rule (Option DG) := fun s g K => ∃ zs l, 0 < l ∧ l < zs.length ∧ rCopyI zs l x y d s g K
theorem rCopyX_ok (sta : StaOK P E) {o : Oper} {c : Call} {ty e : TypeId} {tt : TI} {x y : Operand} (ho : o.op = .call c) (hcal : c.callee = .builtin .copy) (hargs : c.args.toList = [x, y]) (htys : c.argTypes.toList = [ty, ty]) (he : E.el ty = some e) (ht : E.ti e = some tt) (hz : tt.sz = 1) (hok : okO n o = true) :
    RuleOK (InvD M0 W0) P n o (rCopyX x y o.dst) := by
  rintro s g a W M K Q hst hiv ⟨zs, l, h0, h1, hr⟩
  exact rCopyI_ok sta h0 h1 ho hcal hargs htys he ht hz hok s g a W M K Q hst hiv hr
end
end Go.TM
end
section
namespace Go.TM.Tryz
open Go Go.TM Go.Proofs
@[simp] theorem cut_ints (xs : List Int) : (xs = [] ∨ (leaves ((Option.map (V.int .i64) xs[0]?).getD .bad)).length = 1) = True := cut_ok (f := V.int .i64) (n := 1) (fun _ => rfl) xs
@[simp] theorem vwE_int : vwE ∘ V.int .i64 = V.int .i64 := by funext x; rfl
@[simp] theorem norms_ints (xs : List Int) : norms (xs.map (V.int .i64)) = xs.map (V.int .i64) := by rw [norms_map]; simp
@[simp] theorem noLs_ints (xs : List Int) : noLs (xs.map (V.int .i64)) = true := noLs_map _ (by simp) _
theorem intv_inj : Function.Injective (V.int .i64) := fun a b h => by simpa using h
theorem ints_inj {a b : List Int} (h : a.map (V.int .i64) = b.map (V.int .i64)) : a = b := map_inj intv_inj h
end Go.TM.Tryz
end
section
set_option maxHeartbeats 8000000
set_option maxRecDepth 20000
namespace Go.TM.Tryz
open Go Go.TM Go.Proofs
theorem upto8 {y : Nat} (h : y ≤ 8) : y = 0 ∨ y = 1 ∨ y = 2 ∨ y = 3 ∨ y = 4 ∨ y = 5 ∨ y = 6 ∨ y = 7 ∨ y = 8 := by omega
theorem f216_ok (y : Nat) (h : y ≤ 8) : FunOK Tryz.prog 216 [.int .u64 1, .int .u64 (y : Nat)] false (.tup [.int .u64 0, .int .u64 (y : Nat)]) := by
  refine fun_ok (mkE_ok zmix (cl := []) (gl := []) [] trivial trivial) Tryz.func216 (by kernel_rfl) ?_
  refine FunW_run _ _ rfl rfl ?_
  rcases upto8 h with rfl | rfl | rfl | rfl | rfl | rfl | rfl | rfl | rfl <;> simp <;> decide
noncomputable def c216 := ctr (fun y : Nat => y ≤ 8) (fun y => [.int .u64 1, .int .u64 (y : Nat)]) (fun y => (false, .tup [.int .u64 0, .int .u64 (y : Nat)]))
theorem inj_u {β : Type} (out : Nat → β) : ∀ a b : Nat, [V.int .u64 1, .int .u64 (a : Nat)] = [V.int .u64 1, .int .u64 (b : Nat)] → out a = out b := by
  intro a b h
  simp only [List.cons.injEq, and_true, V.int.injEq, true_and] at h
  rw [show a = b by omega]
theorem c216_eq (y : Nat) (h : y ≤ 8) : c216 [.int .u64 1, .int .u64 (y : Nat)] = some (false, .tup [.int .u64 0, .int .u64 (y : Nat)]) := ctr_eq (inj_u _) y h rfl
theorem c216_ok : COK Tryz.prog (216, c216) := ctr_ok fun y h => f216_ok y h
theorem f162_ok (y : Nat) (h : y ≤ 8) : FunOK Tryz.prog 162 [.int .u64 1, .int .u64 (y : Nat)] false (.tup [.int .u64 0, .int .u64 (y : Nat)]) := by
  refine fun_ok (mkE_ok zmix (cl := [(216, c216)]) (gl := []) [] c216_ok trivial) Tryz.func162 (by kernel_rfl) ?_
  refine FunW_run _ _ rfl rfl ?_
  have e := c216_eq y h
  simp [e]
noncomputable def c162 := ctr (fun y : Nat => y ≤ 8) (fun y => [.int .u64 1, .int .u64 (y : Nat)]) (fun y => (false, .tup [.int .u64 0, .int .u64 (y : Nat)]))
theorem c162_eq (y : Nat) (h : y ≤ 8) : c162 [.int .u64 1, .int .u64 (y : Nat)] = some (false, .tup [.int .u64 0, .int .u64 (y : Nat)]) := ctr_eq (inj_u _) y h rfl
theorem c162_ok : COK Tryz.prog (162, c162) := ctr_ok fun y h => f162_ok y h
end Go.TM.Tryz
end
