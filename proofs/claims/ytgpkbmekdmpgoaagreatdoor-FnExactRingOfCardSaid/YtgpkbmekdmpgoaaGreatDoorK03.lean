/- A part of the proof: T1, C0, D0, D1, B0, D8, D2, PB, PA, PC. -/
import Derived.Test.YtgpkbmekdmpgoaaGreatDoorK02
import Derived.Laws.StructEq
import Derived.ProofKit
import Derived.Carry
set_option linter.unusedVariables false
set_option linter.unusedSimpArgs false
section
namespace Go.TM
theorem keep {α : Sort _} {a b : α} (h : a = b) : a = b := h
section
variable {E : Env}
theorem pickR_mono {c a b : V} {xa xb : List Operand} {s : S} {K K' : V → Prop} (h : ∀ v, K v → K' v) (h1 : pickR c a b xa xb s K) : pickR c a b xa xb s K' := by
  unfold pickR at h1 ⊢
  split at h1
  · exact ⟨h1.1, h _ h1.2⟩
  · refine ⟨h1.1, ?_⟩
    have h2 := h1.2
    split at h2 <;> rename_i hg
    · rw [if_pos hg]; exact h _ h2
    · rw [if_neg hg]; exact h _ h2
  · exact h1
theorem pickG_mono {G : Option Bool} {c a b : V} {xc xa xb : List Operand} {s : S} {K K' : V → Prop} (h : ∀ v, K v → K' v) (h1 : pickG G c a b xc xa xb s K) : pickG G c a b xc xa xb s K' := by
  unfold pickG at h1 ⊢
  split at h1
  · exact ⟨h1.1, h _ h1.2⟩
  · split at h1
    · rename_i hG
      rw [if_pos hG]
      split at h1
      · refine ⟨h1.1, ?_⟩
        have h2 := h1.2
        split at h2 <;> rename_i hg
        · rw [if_pos hg]; exact h _ h2
        · rw [if_neg hg]; exact h _ h2
      · exact h1
    · rename_i hG
      rw [if_neg hG]
      exact h _ h1
  · exact h1
theorem stepR_mono {dr : Bool} {d : Option Tmp} {r : R} {us : List Operand} {s : S} {K K' : S → Prop} (h : ∀ v, K v → K' v) (h1 : stepR dr d r us s K) : stepR dr d r us s K' := ⟨h1.1, h1.2.1, h _ h1.2.2⟩
theorem stepG_mono {dr : Bool} {G : Option Bool} {d : Option Tmp} {r : R} {us : List Operand} {s : S} {K K' : S → Prop} (h : ∀ v, K v → K' v) (h1 : stepG dr G d r us s K) : stepG dr G d r us s K' := by
  unfold stepG at h1 ⊢
  split at h1
  · refine ⟨h1.1, ?_⟩
    have h2 := h1.2
    split at h2 <;> rename_i hg
    · rw [if_pos hg]; exact h _ h2
    · rw [if_neg hg]
      split at h2 <;> rename_i hg'
      · rw [if_pos hg']; exact h _ h2
      · rw [if_neg hg']; exact h _ h2
  · exact h1
theorem opsW_mono (dr : Bool) (all : Array Oper) : ∀ (os : List Oper) (s : S) (K K' : S → Prop), (∀ s, K s → K' s) → opsW E dr all os s K → opsW E dr all os s K'
  | [], s, K, K', h, h1 => h _ h1
  | o :: os, s, K, K', h, h1 => by
    have ih := fun s => opsW_mono dr all os s K K' h
    cases ho : o.op
    case pick c x y =>
      cases hg : o.guard <;> simp only [opsW, ho, hg] at h1 ⊢
      · exact pickR_mono (fun _ => ih _) h1
      · exact pickG_mono (fun _ => ih _) h1
    all_goals
      cases hg : o.guard <;> simp only [opsW, ho, hg] at h1 ⊢
      · exact stepR_mono ih h1
      · exact stepG_mono ih h1
theorem planW_mono (all : Array Oper) : ∀ (pl : List (Nat × Bool)) (u s : S) (K K' : S → Prop), (∀ s, K s → K' s) → planW E all pl u s K → planW E all pl u s K'
  | [], u, s, K, K', h, h1 => h _ h1
  | (i, false) :: pl, u, s, K, K', h, h1 => by
    simp only [planW] at h1 ⊢
    split at h1
    · refine ⟨h1.1, opsW_mono true all _ _ _ _ (fun u' h2 => ?_) h1.2⟩
      split at h2
      · exact planW_mono all pl _ _ K K' h h2
      · exact planW_mono all pl _ _ K K' h h2
    · exact h1
  | (i, true) :: pl, u, s, K, K', h, h1 => by
    simp only [planW] at h1 ⊢
    split at h1
    · refine opsW_mono false all _ _ _ _ (fun u' h2 => ?_) h1
      split at h2
      · exact planW_mono all pl _ _ K K' h h2
      · exact planW_mono all pl _ _ K K' h h2
    · exact h1
theorem preW_mono (all : Array Oper) : ∀ (pl : List (Nat × Bool)) (u : S) (K K' : S → Prop), (∀ s, K s → K' s) → preW E all pl u K → preW E all pl u K'
  | [], u, K, K', h, h1 => h _ h1
  | (i, b) :: pl, u, K, K', h, h1 => by
    simp only [preW] at h1 ⊢
    split at h1
    · exact ⟨h1.1, opsW_mono true all _ _ _ _ (fun u' h2 => preW_mono all pl _ K K' h h2) h1.2⟩
    · exact h1
theorem memW_mono {all : Array Oper} {q : Bool} {i : Nat} {s : S} {K K' : S → Prop} (h : ∀ s, K s → K' s) (h1 : memW E all q i s K) : memW E all q i s K' := by
  unfold memW at h1 ⊢
  split at h1
  · exact opsW_mono q all _ _ _ _ h h1
  · exact h1
theorem rigW_mono {all : Array Oper} {i : Nat} {s : S} {K K' : S → Prop} (h : ∀ s, K s → K' s) (h1 : rigW E all i s K) : rigW E all i s K' := by
  unfold rigW at h1 ⊢
  split at h1
  · exact ⟨h1.1, opsW_mono true all _ _ _ _ h h1.2⟩
  · exact h1
theorem treeW_mono (all : Array Oper) : ∀ (t : TT) (s : S) (K K' : S → Prop), (∀ s, K s → K' s) → treeW E all t s K → treeW E all t s K'
  | .done, s, K, K', h, h1 => h _ h1
  | .one q i t, s, K, K', h, h1 => memW_mono (fun s' => treeW_mono all t s' K K' h) h1
  | .two q i t q' j t', s, K, K', h, h1 => ⟨memW_mono (fun s' => treeW_mono all t s' K K' h) h1.1, memW_mono (fun s' => treeW_mono all t' s' K K' h) h1.2⟩
  | .three q i t q' j t' q'' l t'', s, K, K', h, h1 => ⟨memW_mono (fun s' => treeW_mono all t s' K K' h) h1.1, memW_mono (fun s' => treeW_mono all t' s' K K' h) h1.2.1, memW_mono (fun s' => treeW_mono all t'' s' K K' h) h1.2.2⟩
  | .bare t, s, K, K', h, h1 => treeW_mono all t _ _ _ (fun s' => h _) h1
  | .rig i t, s, K, K', h, h1 => rigW_mono (fun s' => treeW_mono all t s' K K' h) h1
theorem codeW_mono : ∀ (c : Code) (s : S) (K K' : X → S → Prop), (∀ x s, K x s → K' x s) → codeW E c s K → codeW E c s K' := by
  intro c
  induction c with
  | skip => intro s K K' h h1; exact h _ _ h1
  | region id ops dr =>
    intro s K K' h h1
    simp only [codeW] at h1 ⊢
    split at h1
    · exact preW_mono _ _ _ _ _ (fun _ => treeW_mono _ _ _ _ _ (fun _ => h _ _)) h1
    · exact planW_mono _ _ _ _ _ _ (fun _ => h _ _) h1
    · exact opsW_mono _ ops _ s _ _ (h _) h1
  | seq a b iha ihb =>
    intro s K K' h h1
    refine iha s _ _ (fun x s h2 => ?_) h1
    cases x with
    | normal => exact ihb s _ _ h h2
    | exit id => exact h _ _ h2
    | ret => exact h _ _ h2
  | cond c a b iha ihb =>
    intro s K K' h h1
    simp only [codeW] at h1 ⊢
    split at h1
    · refine ⟨h1.1, ?_⟩
      have h2 := h1.2
      split at h2
      · rename_i hv; rw [if_pos hv]; exact iha _ _ _ h h2
      · rename_i hv; rw [if_neg hv]; exact ihb _ _ _ h h2
    · exact ⟨h1.1, iha _ _ _ h h1.2.1, ihb _ _ _ h h1.2.2⟩
    · exact h1
  | block id c ih =>
    intro s K K' h h1
    refine ih s _ _ (fun x s h2 => ?_) h1
    cases x with
    | normal => exact h _ _ h2
    | exit id' =>
      simp only at h2 ⊢
      split at h2
      · rename_i e; rw [if_pos e]; exact h _ _ h2
      · rename_i e; rw [if_neg e]; exact h _ _ h2
    | ret => exact h _ _ h2
  | loop c ih =>
    intro s K K' h h1
    intro I hI
    refine h1 I fun s' h2 => hI s' (ih s' _ _ (fun x s h3 => ?_) h2)
    cases x with
    | normal => exact h3
    | exit id => exact h _ _ h3
    | ret => exact h _ _ h3
  | exit id => intro s K K' h h1; exact h _ _ h1
  | ret => intro s K K' h h1; exact h _ _ h1
  | _ => intro s K K' h h1; exact h1.elim
theorem run_seq (a b : Code) (k : List Fr) (Q : X → S → Prop) (s : S) : kont E (.code (.seq a b) :: k) Q .normal s = kont E (.code a :: .code b :: k) Q .normal s := by
  have h : (fun x s' => match x with | .normal => codeW E b s' (kont E k Q) | x => kont E k Q x s') = kont E (.code b :: k) Q := by
    funext x s'; cases x <;> rfl
  simp only [kont, codeW]
  rw [← h]
  rfl
def aftD (pl : Option (List (Nat × Bool))) (ops : Array Oper) (k : List Fr) (E : Env) (Q : X → S → Prop) (s : S) : Prop :=
  match pl with
  | some pl => planW E ops pl s.see { s.see with B := fun _ => none } fun u => kont E k Q .normal (s.after u ops)
  | none => kont E (.ops true ops ops.toList :: k) Q .normal s
def treeK (E : Env) (ops : Array Oper) (k : List Fr) (Q : X → S → Prop) (t : TT) (s : S) : Prop := treeW E ops t s (kont E k Q .normal)
def preK (E : Env) (ops : Array Oper) (k : List Fr) (Q : X → S → Prop) (t : TT) (pl : List (Nat × Bool)) (s : S) : Prop := preW E ops pl s fun u => treeK E ops k Q t u
def aftE (p : Option Pl) (pl : Option (List (Nat × Bool))) (ops : Array Oper) (k : List Fr) (E : Env) (Q : X → S → Prop) (s : S) : Prop :=
  match p with
  | some p => preK E ops k Q p.tt (cutL p) s
  | none => aftD pl ops k E Q s
theorem run_region (id : Nat) (ops : Array Oper) (k : List Fr) (Q : X → S → Prop) (s : S) : kont E (.code (.region id ops false) :: k) Q .normal s = kont E (.ops false ops ops.toList :: k) Q .normal s := by
  simp only [kont, codeW]
theorem run_regionD (id : Nat) (ops : Array Oper) (k : List Fr) (Q : X → S → Prop) (s : S) : kont E (.code (.region id ops true) :: k) Q .normal s = aftE (E.pln id) (E.plan id) ops k E Q s := by
  unfold aftE aftD
  cases hp : E.pln id with
  | none => cases h : E.plan id <;> simp only [kont, codeW, h, hp]
  | some p => simp only [kont, codeW, hp, preK, treeK]
@[simp] theorem aftE_none (pl : Option (List (Nat × Bool))) (ops : Array Oper) (k : List Fr) (Q : X → S → Prop) (s : S) : aftE none pl ops k E Q s = aftD pl ops k E Q s := keep rfl
@[simp] theorem aftD_none (ops : Array Oper) (k : List Fr) (Q : X → S → Prop) (s : S) : aftD none ops k E Q s = kont E (.ops true ops ops.toList :: k) Q .normal s := keep rfl
theorem treeK_done (ops : Array Oper) (k : List Fr) (Q : X → S → Prop) (s : S) : treeK E ops k Q .done s = kont E k Q .normal s := keep rfl
theorem preK_nil (ops : Array Oper) (k : List Fr) (Q : X → S → Prop) (t : TT) (s : S) : preK E ops k Q t [] s = treeK E ops k Q t s := keep rfl
def preI (E : Env) (ops : Array Oper) (k : List Fr) (Q : X → S → Prop) (t : TT) (pl : List (Nat × Bool)) (b : Bool) (o : Option Oper) (s : S) : Prop :=
  match o with
  | some o => (b = false → pureOp E s o) ∧ kont E [.ops true ops [o]] (fun _ => preK E ops k Q t pl) .normal s
  | none => False
def memI (E : Env) (ops : Array Oper) (k : List Fr) (Q : X → S → Prop) (t : TT) (q : Bool) (o : Option Oper) (s : S) : Prop :=
  match o with
  | some o => kont E [.ops q ops [o]] (fun _ => treeK E ops k Q t) .normal s
  | none => False
def rigI (E : Env) (ops : Array Oper) (k : List Fr) (Q : X → S → Prop) (t : TT) (o : Option Oper) (s : S) : Prop :=
  match o with
  | some o => pureOp E s o ∧ kont E [.ops true ops [o]] (fun _ => treeK E ops k Q t) .normal s
  | none => False
theorem treeK_rig (ops : Array Oper) (k : List Fr) (Q : X → S → Prop) (i : Nat) (t : TT) (s : S) : treeK E ops k Q (.rig i t) s = rigI E ops k Q t ops[i]? s := by
  cases h : ops[i]? with
  | none => simp only [treeK, treeW, rigW, h, rigI]
  | some o => simp only [treeK, treeW, rigW, h, rigI, kont]
theorem rigI_some (ops : Array Oper) (k : List Fr) (Q : X → S → Prop) (t : TT) (o : Oper) (s : S) : rigI E ops k Q t (some o) s = (pureOp E s o ∧ kont E [.ops true ops [o]] (fun _ => treeK E ops k Q t) .normal s) := keep rfl
theorem treeK_one (ops : Array Oper) (k : List Fr) (Q : X → S → Prop) (q : Bool) (i : Nat) (t : TT) (s : S) : treeK E ops k Q (.one q i t) s = memI E ops k Q t q ops[i]? s := by
  cases h : ops[i]? with
  | none => simp only [treeK, treeW, memW, h, memI]
  | some o => simp only [treeK, treeW, memW, h, memI, kont]
theorem treeK_two (ops : Array Oper) (k : List Fr) (Q : X → S → Prop) (q : Bool) (i : Nat) (t : TT) (q' : Bool) (j : Nat) (t' : TT) (s : S) : treeK E ops k Q (.two q i t q' j t') s = (memI E ops k Q t q ops[i]? s ∧ memI E ops k Q t' q' ops[j]? s) := by
  rw [← treeK_one, ← treeK_one]
  rfl
theorem treeK_three (ops : Array Oper) (k : List Fr) (Q : X → S → Prop) (q : Bool) (i : Nat) (t : TT) (q' : Bool) (j : Nat) (t' : TT) (q'' : Bool) (l : Nat) (t'' : TT) (s : S) : treeK E ops k Q (.three q i t q' j t' q'' l t'') s = (memI E ops k Q t q ops[i]? s ∧ memI E ops k Q t' q' ops[j]? s ∧ memI E ops k Q t'' q'' ops[l]? s) := by
  rw [← treeK_one, ← treeK_one, ← treeK_one]
  rfl
def joinQ (E : Env) (k : List Fr) (Q : X → S → Prop) (s : S) : X → S → Prop := fun _ s1 => kont E k Q .normal (joinS s s1)
theorem joinQ_app (E : Env) (k : List Fr) (Q : X → S → Prop) (s : S) (x : X) (s1 : S) : joinQ E k Q s x s1 = kont E k Q .normal (joinS s s1) := keep rfl
theorem treeK_bare (ops : Array Oper) (k : List Fr) (Q : X → S → Prop) (t : TT) (s : S) : treeK E ops k Q (.bare t) s = treeK E ops [] (joinQ E k Q s) t s.bareK := keep rfl
theorem preK_cons (ops : Array Oper) (k : List Fr) (Q : X → S → Prop) (i : Nat) (b : Bool) (pl : List (Nat × Bool)) (t : TT) (s : S) : preK E ops k Q t ((i, b) :: pl) s = preI E ops k Q t pl b ops[i]? s := by
  cases h : ops[i]? with
  | none => simp only [preK, preW, h, preI]
  | some o => simp only [preK, preW, h, preI, kont]
theorem memI_some (ops : Array Oper) (k : List Fr) (Q : X → S → Prop) (t : TT) (q : Bool) (o : Oper) (s : S) : memI E ops k Q t q (some o) s = kont E [.ops q ops [o]] (fun _ => treeK E ops k Q t) .normal s := keep rfl
theorem preI_read (ops : Array Oper) (k : List Fr) (Q : X → S → Prop) (t : TT) (pl : List (Nat × Bool)) (o : Oper) (s : S) : preI E ops k Q t pl false (some o) s = (pureOp E s o ∧ kont E [.ops true ops [o]] (fun _ => preK E ops k Q t pl) .normal s) := by
  simp [preI]
theorem preI_lone (ops : Array Oper) (k : List Fr) (Q : X → S → Prop) (t : TT) (pl : List (Nat × Bool)) (o : Oper) (s : S) : preI E ops k Q t pl true (some o) s = kont E [.ops true ops [o]] (fun _ => preK E ops k Q t pl) .normal s := by
  simp [preI]
theorem aftE_some (p : Pl) (pl : Option (List (Nat × Bool))) (ops : Array Oper) (k : List Fr) (Q : X → S → Prop) (s : S) : aftE (some p) pl ops k E Q s = preK E ops k Q p.tt (cutL p) s := keep rfl
theorem run_nil (dr : Bool) (all : Array Oper) (k : List Fr) (Q : X → S → Prop) (s : S) : kont E (.ops dr all [] :: k) Q .normal s = kont E k Q .normal s := keep rfl
theorem run_skip (k : List Fr) (Q : X → S → Prop) (s : S) : kont E (.code .skip :: k) Q .normal s = kont E k Q .normal s := keep rfl
theorem run_exit (id : Nat) (k : List Fr) (Q : X → S → Prop) (s : S) : kont E (.code (.exit id) :: k) Q .normal s = kont E k Q (.exit id) s := keep rfl
theorem run_ret (k : List Fr) (Q : X → S → Prop) (s : S) : kont E (.code .ret :: k) Q .normal s = kont E k Q .ret s := keep rfl
theorem run_done (Q : X → S → Prop) (x : X) (s : S) : kont E [] Q x s = Q x s := keep rfl
theorem run_block (id : Nat) (c : Code) (k : List Fr) (Q : X → S → Prop) (s : S) : kont E (.code (.block id c) :: k) Q .normal s = kont E (.code c :: .blk id :: k) Q .normal s := by
  have h : (fun x s' => match x with | .exit id' => if id' = id then kont E k Q .normal s' else kont E k Q (.exit id') s' | x => kont E k Q x s') = kont E (.blk id :: k) Q := by
    funext x s'; cases x <;> rfl
  simp only [kont, codeW]
  rw [← h]
  rfl
theorem run_blk (id : Nat) (k : List Fr) (Q : X → S → Prop) (s : S) : kont E (.blk id :: k) Q .normal s = kont E k Q .normal s := keep rfl
theorem run_blk_ret (id : Nat) (k : List Fr) (Q : X → S → Prop) (s : S) : kont E (.blk id :: k) Q .ret s = kont E k Q .ret s := keep rfl
theorem run_blk_exit (id id' : Nat) (k : List Fr) (Q : X → S → Prop) (s : S) : kont E (.blk id :: k) Q (.exit id') s = if id' = id then kont E k Q .normal s else kont E k Q (.exit id') s := keep rfl
theorem run_code_ret (c : Code) (k : List Fr) (Q : X → S → Prop) (s : S) : kont E (.code c :: k) Q .ret s = kont E k Q .ret s := keep rfl
theorem run_code_exit (c : Code) (id : Nat) (k : List Fr) (Q : X → S → Prop) (s : S) : kont E (.code c :: k) Q (.exit id) s = kont E k Q (.exit id) s := keep rfl
theorem run_lp_ret (c : Code) (k : List Fr) (Q : X → S → Prop) (s : S) : kont E (.lp c :: k) Q .ret s = kont E k Q .ret s := keep rfl
theorem run_lp_exit (c : Code) (id : Nat) (k : List Fr) (Q : X → S → Prop) (s : S) : kont E (.lp c :: k) Q (.exit id) s = kont E k Q (.exit id) s := keep rfl
theorem run_loop {c : Code} {k : List Fr} {Q : X → S → Prop} {s : S} (h : kont E (.code c :: .lp c :: k) Q .normal s) : kont E (.lp c :: k) Q .normal s := by
  simp only [kont, codeW] at h ⊢
  intro I hI
  apply hI
  refine codeW_mono c s _ _ ?_ h
  intro x s' hx
  cases x with
  | normal => simp only [kont, codeW] at hx ⊢; exact hx I hI
  | exit id => exact hx
  | ret => exact hx
theorem run_lp (c : Code) (k : List Fr) (Q : X → S → Prop) (s : S) : kont E (.code (.loop c) :: k) Q .normal s = kont E (.lp c :: k) Q .normal s := keep rfl
def aftR (dr : Bool) (r : R) (d : Option Tmp) (all : Array Oper) (os : List Oper) (k : List Fr) (E : Env) (Q : X → S → Prop) : Prop := (r.c ∧ (dr = true → r.q = true)) ∧ kont E (.ops dr all os :: k) Q .normal (r.s.put d r.v)
def aftG (dr : Bool) (g : Option Bool) (r : R) (us : List Operand) (d : Option Tmp) (all : Array Oper) (os : List Oper) (k : List Fr) (E : Env) (Q : X → S → Prop) (s : S) : Prop :=
  match g with
  | some G => (needs G s us ∧ (G = true → r.c ∧ (dr = true → r.q = true))) ∧
      (if r.p = true ∧ r.q = true then kont E (.ops dr all os :: k) Q .normal (s.put d (.cnd G r.v))
       else if G = true then kont E (.ops dr all os :: k) Q .normal (r.s.put d r.v) else kont E (.ops dr all os :: k) Q .normal (s.put d (.tup [])))
  | none => False
def aftC (v : V) (c : Operand) (a b : Code) (k : List Fr) (E : Env) (Q : X → S → Prop) (s : S) : Prop :=
  match v with
  | .bool v => needs true s [c] ∧ (if v = true then kont E (.code a :: k) Q .normal s else kont E (.code b :: k) Q .normal s)
  | .anyB => needs true s [c] ∧ kont E (.code a :: k) Q .normal s ∧ kont E (.code b :: k) Q .normal s
  | _ => False
def aftP (dr : Bool) (c : V) (a b : V) (xa xb : Operand) (d : Option Tmp) (all : Array Oper) (os : List Oper) (k : List Fr) (E : Env) (Q : X → S → Prop) (s : S) : Prop :=
  match c, a, b with
  | .bool g, .bool x, .bool y => (needs g s [xa] ∧ needs (!g) s [xb]) ∧ kont E (.ops dr all os :: k) Q .normal (s.put d (.bool (bif g then x else y)))
  | .bool g, v, w => (needs g s [xa] ∧ needs (!g) s [xb]) ∧ (if g = true then kont E (.ops dr all os :: k) Q .normal (s.put d v) else kont E (.ops dr all os :: k) Q .normal (s.put d w))
  | _, _, _ => False
def aftQ (dr : Bool) (G : Option Bool) (c : V) (a b : V) (xc xa xb : Operand) (d : Option Tmp) (all : Array Oper) (os : List Oper) (k : List Fr) (E : Env) (Q : X → S → Prop) (s : S) : Prop :=
  match G, c, a, b with
  | some G, .bool g, .bool x, .bool y => (needs G s [xc] ∧ needs (G && g) s [xa] ∧ needs (G && !g) s [xb]) ∧ kont E (.ops dr all os :: k) Q .normal (s.put d (.cnd G (.bool (bif g then x else y))))
  | some G, c, a, b => if G = true then (match c with
    | .bool g => (needs true s [xc] ∧ needs g s [xa] ∧ needs (!g) s [xb]) ∧ (if g = true then kont E (.ops dr all os :: k) Q .normal (s.put d (.cnd true a)) else kont E (.ops dr all os :: k) Q .normal (s.put d (.cnd true b)))
    | _ => False) else kont E (.ops dr all os :: k) Q .normal (s.put d (.cnd false .bad))
  | none, _, _, _ => False
theorem run_move (dr : Bool) (all : Array Oper) (dst : Option Tmp) (x : Operand) (ty : TypeId) (pos : String) (after : Array Edge) (os : List Oper) (k : List Fr) (Q : X → S → Prop) (s : S) :
    kont E (.ops dr all (⟨dst, .move x, ty, pos, after, none⟩ :: os) :: k) Q .normal s = (needs true s (Op.move x).operands.toList ∧ aftR dr (opR E s ty (.move x)) dst all os k E Q) := keep rfl
theorem runG_move (dr : Bool) (all : Array Oper) (dst : Option Tmp) (x : Operand) (ty : TypeId) (pos : String) (after : Array Edge) (jw : Nat × Bool) (os : List Oper) (k : List Fr) (Q : X → S → Prop) (s : S) :
    kont E (.ops dr all (⟨dst, .move x, ty, pos, after, some jw⟩ :: os) :: k) Q .normal s = aftG dr (grd all s (some jw)) (opR E s ty (.move x)) (Op.move x).operands.toList dst all os k E Q s := keep rfl
theorem run_assign (dr : Bool) (all : Array Oper) (dst : Option Tmp) (x : Operand) (ty : TypeId) (pos : String) (after : Array Edge) (os : List Oper) (k : List Fr) (Q : X → S → Prop) (s : S) :
    kont E (.ops dr all (⟨dst, .assign x, ty, pos, after, none⟩ :: os) :: k) Q .normal s = (needs true s (Op.assign x).operands.toList ∧ aftR dr (opR E s ty (.assign x)) dst all os k E Q) := keep rfl
theorem runG_assign (dr : Bool) (all : Array Oper) (dst : Option Tmp) (x : Operand) (ty : TypeId) (pos : String) (after : Array Edge) (jw : Nat × Bool) (os : List Oper) (k : List Fr) (Q : X → S → Prop) (s : S) :
    kont E (.ops dr all (⟨dst, .assign x, ty, pos, after, some jw⟩ :: os) :: k) Q .normal s = aftG dr (grd all s (some jw)) (opR E s ty (.assign x)) (Op.assign x).operands.toList dst all os k E Q s := keep rfl
theorem run_alloc (dr : Bool) (all : Array Oper) (dst : Option Tmp) (t : TypeId) (ty : TypeId) (pos : String) (after : Array Edge) (os : List Oper) (k : List Fr) (Q : X → S → Prop) (s : S) :
    kont E (.ops dr all (⟨dst, .alloc t, ty, pos, after, none⟩ :: os) :: k) Q .normal s = (needs true s (Op.alloc t).operands.toList ∧ aftR dr (opR E s ty (.alloc t)) dst all os k E Q) := keep rfl
theorem runG_alloc (dr : Bool) (all : Array Oper) (dst : Option Tmp) (t : TypeId) (ty : TypeId) (pos : String) (after : Array Edge) (jw : Nat × Bool) (os : List Oper) (k : List Fr) (Q : X → S → Prop) (s : S) :
    kont E (.ops dr all (⟨dst, .alloc t, ty, pos, after, some jw⟩ :: os) :: k) Q .normal s = aftG dr (grd all s (some jw)) (opR E s ty (.alloc t)) (Op.alloc t).operands.toList dst all os k E Q s := keep rfl
theorem run_box (dr : Bool) (all : Array Oper) (dst : Option Tmp) (t : TypeId) (x : Operand) (ty : TypeId) (pos : String) (after : Array Edge) (os : List Oper) (k : List Fr) (Q : X → S → Prop) (s : S) :
    kont E (.ops dr all (⟨dst, .box t x, ty, pos, after, none⟩ :: os) :: k) Q .normal s = (needs true s (Op.box t x).operands.toList ∧ aftR dr (opR E s ty (.box t x)) dst all os k E Q) := keep rfl
theorem runG_box (dr : Bool) (all : Array Oper) (dst : Option Tmp) (t : TypeId) (x : Operand) (ty : TypeId) (pos : String) (after : Array Edge) (jw : Nat × Bool) (os : List Oper) (k : List Fr) (Q : X → S → Prop) (s : S) :
    kont E (.ops dr all (⟨dst, .box t x, ty, pos, after, some jw⟩ :: os) :: k) Q .normal s = aftG dr (grd all s (some jw)) (opR E s ty (.box t x)) (Op.box t x).operands.toList dst all os k E Q s := keep rfl
theorem run_build (dr : Bool) (all : Array Oper) (dst : Option Tmp) (t : TypeId) (ps : Array (Nat × Operand)) (ty : TypeId) (pos : String) (after : Array Edge) (os : List Oper) (k : List Fr) (Q : X → S → Prop) (s : S) :
    kont E (.ops dr all (⟨dst, .build t ps, ty, pos, after, none⟩ :: os) :: k) Q .normal s = (needs true s (Op.build t ps).operands.toList ∧ aftR dr (opR E s ty (.build t ps)) dst all os k E Q) := keep rfl
theorem runG_build (dr : Bool) (all : Array Oper) (dst : Option Tmp) (t : TypeId) (ps : Array (Nat × Operand)) (ty : TypeId) (pos : String) (after : Array Edge) (jw : Nat × Bool) (os : List Oper) (k : List Fr) (Q : X → S → Prop) (s : S) :
    kont E (.ops dr all (⟨dst, .build t ps, ty, pos, after, some jw⟩ :: os) :: k) Q .normal s = aftG dr (grd all s (some jw)) (opR E s ty (.build t ps)) (Op.build t ps).operands.toList dst all os k E Q s := keep rfl
theorem run_buildSlice (dr : Bool) (all : Array Oper) (dst : Option Tmp) (t : TypeId) (n : Nat) (ps : Array (Nat × Operand)) (ty : TypeId) (pos : String) (after : Array Edge) (os : List Oper) (k : List Fr) (Q : X → S → Prop) (s : S) :
    kont E (.ops dr all (⟨dst, .buildSlice t n ps, ty, pos, after, none⟩ :: os) :: k) Q .normal s = (needs true s (Op.buildSlice t n ps).operands.toList ∧ aftR dr (opR E s ty (.buildSlice t n ps)) dst all os k E Q) := keep rfl
theorem runG_buildSlice (dr : Bool) (all : Array Oper) (dst : Option Tmp) (t : TypeId) (n : Nat) (ps : Array (Nat × Operand)) (ty : TypeId) (pos : String) (after : Array Edge) (jw : Nat × Bool) (os : List Oper) (k : List Fr) (Q : X → S → Prop) (s : S) :
    kont E (.ops dr all (⟨dst, .buildSlice t n ps, ty, pos, after, some jw⟩ :: os) :: k) Q .normal s = aftG dr (grd all s (some jw)) (opR E s ty (.buildSlice t n ps)) (Op.buildSlice t n ps).operands.toList dst all os k E Q s := keep rfl
theorem run_load (dr : Bool) (all : Array Oper) (dst : Option Tmp) (t : TypeId) (x : Operand) (ty : TypeId) (pos : String) (after : Array Edge) (os : List Oper) (k : List Fr) (Q : X → S → Prop) (s : S) :
    kont E (.ops dr all (⟨dst, .load t x, ty, pos, after, none⟩ :: os) :: k) Q .normal s = (needs true s (Op.load t x).operands.toList ∧ aftR dr (opR E s ty (.load t x)) dst all os k E Q) := keep rfl
theorem runG_load (dr : Bool) (all : Array Oper) (dst : Option Tmp) (t : TypeId) (x : Operand) (ty : TypeId) (pos : String) (after : Array Edge) (jw : Nat × Bool) (os : List Oper) (k : List Fr) (Q : X → S → Prop) (s : S) :
    kont E (.ops dr all (⟨dst, .load t x, ty, pos, after, some jw⟩ :: os) :: k) Q .normal s = aftG dr (grd all s (some jw)) (opR E s ty (.load t x)) (Op.load t x).operands.toList dst all os k E Q s := keep rfl
theorem run_store (dr : Bool) (all : Array Oper) (dst : Option Tmp) (t : TypeId) (x y : Operand) (ty : TypeId) (pos : String) (after : Array Edge) (os : List Oper) (k : List Fr) (Q : X → S → Prop) (s : S) :
    kont E (.ops dr all (⟨dst, .store t x y, ty, pos, after, none⟩ :: os) :: k) Q .normal s = (needs true s (Op.store t x y).operands.toList ∧ aftR dr (opR E s ty (.store t x y)) dst all os k E Q) := keep rfl
theorem runG_store (dr : Bool) (all : Array Oper) (dst : Option Tmp) (t : TypeId) (x y : Operand) (ty : TypeId) (pos : String) (after : Array Edge) (jw : Nat × Bool) (os : List Oper) (k : List Fr) (Q : X → S → Prop) (s : S) :
    kont E (.ops dr all (⟨dst, .store t x y, ty, pos, after, some jw⟩ :: os) :: k) Q .normal s = aftG dr (grd all s (some jw)) (opR E s ty (.store t x y)) (Op.store t x y).operands.toList dst all os k E Q s := keep rfl
theorem run_nilCheck (dr : Bool) (all : Array Oper) (dst : Option Tmp) (x : Operand) (ty : TypeId) (pos : String) (after : Array Edge) (os : List Oper) (k : List Fr) (Q : X → S → Prop) (s : S) :
    kont E (.ops dr all (⟨dst, .nilCheck x, ty, pos, after, none⟩ :: os) :: k) Q .normal s = (needs true s (Op.nilCheck x).operands.toList ∧ aftR dr (opR E s ty (.nilCheck x)) dst all os k E Q) := keep rfl
theorem runG_nilCheck (dr : Bool) (all : Array Oper) (dst : Option Tmp) (x : Operand) (ty : TypeId) (pos : String) (after : Array Edge) (jw : Nat × Bool) (os : List Oper) (k : List Fr) (Q : X → S → Prop) (s : S) :
    kont E (.ops dr all (⟨dst, .nilCheck x, ty, pos, after, some jw⟩ :: os) :: k) Q .normal s = aftG dr (grd all s (some jw)) (opR E s ty (.nilCheck x)) (Op.nilCheck x).operands.toList dst all os k E Q s := keep rfl
theorem run_binOp (dr : Bool) (all : Array Oper) (dst : Option Tmp) (op : BinOp) (t : TypeId) (x y : Operand) (u : TypeId) (ty : TypeId) (pos : String) (after : Array Edge) (os : List Oper) (k : List Fr) (Q : X → S → Prop) (s : S) :
    kont E (.ops dr all (⟨dst, .binOp op t x y u, ty, pos, after, none⟩ :: os) :: k) Q .normal s = (needs true s (Op.binOp op t x y u).operands.toList ∧ aftR dr (opR E s ty (.binOp op t x y u)) dst all os k E Q) := keep rfl
theorem runG_binOp (dr : Bool) (all : Array Oper) (dst : Option Tmp) (op : BinOp) (t : TypeId) (x y : Operand) (u : TypeId) (ty : TypeId) (pos : String) (after : Array Edge) (jw : Nat × Bool) (os : List Oper) (k : List Fr) (Q : X → S → Prop) (s : S) :
    kont E (.ops dr all (⟨dst, .binOp op t x y u, ty, pos, after, some jw⟩ :: os) :: k) Q .normal s = aftG dr (grd all s (some jw)) (opR E s ty (.binOp op t x y u)) (Op.binOp op t x y u).operands.toList dst all os k E Q s := keep rfl
theorem run_unOp (dr : Bool) (all : Array Oper) (dst : Option Tmp) (op : UnOp) (t : TypeId) (x : Operand) (ty : TypeId) (pos : String) (after : Array Edge) (os : List Oper) (k : List Fr) (Q : X → S → Prop) (s : S) :
    kont E (.ops dr all (⟨dst, .unOp op t x, ty, pos, after, none⟩ :: os) :: k) Q .normal s = (needs true s (Op.unOp op t x).operands.toList ∧ aftR dr (opR E s ty (.unOp op t x)) dst all os k E Q) := keep rfl
theorem runG_unOp (dr : Bool) (all : Array Oper) (dst : Option Tmp) (op : UnOp) (t : TypeId) (x : Operand) (ty : TypeId) (pos : String) (after : Array Edge) (jw : Nat × Bool) (os : List Oper) (k : List Fr) (Q : X → S → Prop) (s : S) :
    kont E (.ops dr all (⟨dst, .unOp op t x, ty, pos, after, some jw⟩ :: os) :: k) Q .normal s = aftG dr (grd all s (some jw)) (opR E s ty (.unOp op t x)) (Op.unOp op t x).operands.toList dst all os k E Q s := keep rfl
theorem run_convert (dr : Bool) (all : Array Oper) (dst : Option Tmp) (t u : TypeId) (x : Operand) (ty : TypeId) (pos : String) (after : Array Edge) (os : List Oper) (k : List Fr) (Q : X → S → Prop) (s : S) :
    kont E (.ops dr all (⟨dst, .convert t u x, ty, pos, after, none⟩ :: os) :: k) Q .normal s = (needs true s (Op.convert t u x).operands.toList ∧ aftR dr (opR E s ty (.convert t u x)) dst all os k E Q) := keep rfl
theorem runG_convert (dr : Bool) (all : Array Oper) (dst : Option Tmp) (t u : TypeId) (x : Operand) (ty : TypeId) (pos : String) (after : Array Edge) (jw : Nat × Bool) (os : List Oper) (k : List Fr) (Q : X → S → Prop) (s : S) :
    kont E (.ops dr all (⟨dst, .convert t u x, ty, pos, after, some jw⟩ :: os) :: k) Q .normal s = aftG dr (grd all s (some jw)) (opR E s ty (.convert t u x)) (Op.convert t u x).operands.toList dst all os k E Q s := keep rfl
theorem run_makeFunc (dr : Bool) (all : Array Oper) (dst : Option Tmp) (f : Fn) (xs ys : Array Operand) (ty : TypeId) (pos : String) (after : Array Edge) (os : List Oper) (k : List Fr) (Q : X → S → Prop) (s : S) :
    kont E (.ops dr all (⟨dst, .makeFunc f xs ys, ty, pos, after, none⟩ :: os) :: k) Q .normal s = (needs true s (Op.makeFunc f xs ys).operands.toList ∧ aftR dr (opR E s ty (.makeFunc f xs ys)) dst all os k E Q) := keep rfl
theorem runG_makeFunc (dr : Bool) (all : Array Oper) (dst : Option Tmp) (f : Fn) (xs ys : Array Operand) (ty : TypeId) (pos : String) (after : Array Edge) (jw : Nat × Bool) (os : List Oper) (k : List Fr) (Q : X → S → Prop) (s : S) :
    kont E (.ops dr all (⟨dst, .makeFunc f xs ys, ty, pos, after, some jw⟩ :: os) :: k) Q .normal s = aftG dr (grd all s (some jw)) (opR E s ty (.makeFunc f xs ys)) (Op.makeFunc f xs ys).operands.toList dst all os k E Q s := keep rfl
theorem run_makeSlice (dr : Bool) (all : Array Oper) (dst : Option Tmp) (t : TypeId) (x y : Operand) (ty : TypeId) (pos : String) (after : Array Edge) (os : List Oper) (k : List Fr) (Q : X → S → Prop) (s : S) :
    kont E (.ops dr all (⟨dst, .makeSlice t x y, ty, pos, after, none⟩ :: os) :: k) Q .normal s = (needs true s (Op.makeSlice t x y).operands.toList ∧ aftR dr (opR E s ty (.makeSlice t x y)) dst all os k E Q) := keep rfl
theorem runG_makeSlice (dr : Bool) (all : Array Oper) (dst : Option Tmp) (t : TypeId) (x y : Operand) (ty : TypeId) (pos : String) (after : Array Edge) (jw : Nat × Bool) (os : List Oper) (k : List Fr) (Q : X → S → Prop) (s : S) :
    kont E (.ops dr all (⟨dst, .makeSlice t x y, ty, pos, after, some jw⟩ :: os) :: k) Q .normal s = aftG dr (grd all s (some jw)) (opR E s ty (.makeSlice t x y)) (Op.makeSlice t x y).operands.toList dst all os k E Q s := keep rfl
theorem run_slice (dr : Bool) (all : Array Oper) (dst : Option Tmp) (t : TypeId) (x : Operand) (l h m : Option Operand) (ty : TypeId) (pos : String) (after : Array Edge) (os : List Oper) (k : List Fr) (Q : X → S → Prop) (s : S) :
    kont E (.ops dr all (⟨dst, .slice t x l h m, ty, pos, after, none⟩ :: os) :: k) Q .normal s = (needs true s (Op.slice t x l h m).operands.toList ∧ aftR dr (opR E s ty (.slice t x l h m)) dst all os k E Q) := keep rfl
theorem runG_slice (dr : Bool) (all : Array Oper) (dst : Option Tmp) (t : TypeId) (x : Operand) (l h m : Option Operand) (ty : TypeId) (pos : String) (after : Array Edge) (jw : Nat × Bool) (os : List Oper) (k : List Fr) (Q : X → S → Prop) (s : S) :
    kont E (.ops dr all (⟨dst, .slice t x l h m, ty, pos, after, some jw⟩ :: os) :: k) Q .normal s = aftG dr (grd all s (some jw)) (opR E s ty (.slice t x l h m)) (Op.slice t x l h m).operands.toList dst all os k E Q s := keep rfl
theorem run_fieldAddr (dr : Bool) (all : Array Oper) (dst : Option Tmp) (t : TypeId) (x : Operand) (f : Nat) (ty : TypeId) (pos : String) (after : Array Edge) (os : List Oper) (k : List Fr) (Q : X → S → Prop) (s : S) :
    kont E (.ops dr all (⟨dst, .fieldAddr t x f, ty, pos, after, none⟩ :: os) :: k) Q .normal s = (needs true s (Op.fieldAddr t x f).operands.toList ∧ aftR dr (opR E s ty (.fieldAddr t x f)) dst all os k E Q) := keep rfl
theorem runG_fieldAddr (dr : Bool) (all : Array Oper) (dst : Option Tmp) (t : TypeId) (x : Operand) (f : Nat) (ty : TypeId) (pos : String) (after : Array Edge) (jw : Nat × Bool) (os : List Oper) (k : List Fr) (Q : X → S → Prop) (s : S) :
    kont E (.ops dr all (⟨dst, .fieldAddr t x f, ty, pos, after, some jw⟩ :: os) :: k) Q .normal s = aftG dr (grd all s (some jw)) (opR E s ty (.fieldAddr t x f)) (Op.fieldAddr t x f).operands.toList dst all os k E Q s := keep rfl
theorem run_field (dr : Bool) (all : Array Oper) (dst : Option Tmp) (t : TypeId) (x : Operand) (f : Nat) (ty : TypeId) (pos : String) (after : Array Edge) (os : List Oper) (k : List Fr) (Q : X → S → Prop) (s : S) :
    kont E (.ops dr all (⟨dst, .field t x f, ty, pos, after, none⟩ :: os) :: k) Q .normal s = (needs true s (Op.field t x f).operands.toList ∧ aftR dr (opR E s ty (.field t x f)) dst all os k E Q) := keep rfl
theorem runG_field (dr : Bool) (all : Array Oper) (dst : Option Tmp) (t : TypeId) (x : Operand) (f : Nat) (ty : TypeId) (pos : String) (after : Array Edge) (jw : Nat × Bool) (os : List Oper) (k : List Fr) (Q : X → S → Prop) (s : S) :
    kont E (.ops dr all (⟨dst, .field t x f, ty, pos, after, some jw⟩ :: os) :: k) Q .normal s = aftG dr (grd all s (some jw)) (opR E s ty (.field t x f)) (Op.field t x f).operands.toList dst all os k E Q s := keep rfl
theorem run_indexAddr (dr : Bool) (all : Array Oper) (dst : Option Tmp) (t : TypeId) (x y : Operand) (ty : TypeId) (pos : String) (after : Array Edge) (os : List Oper) (k : List Fr) (Q : X → S → Prop) (s : S) :
    kont E (.ops dr all (⟨dst, .indexAddr t x y, ty, pos, after, none⟩ :: os) :: k) Q .normal s = (needs true s (Op.indexAddr t x y).operands.toList ∧ aftR dr (opR E s ty (.indexAddr t x y)) dst all os k E Q) := keep rfl
theorem runG_indexAddr (dr : Bool) (all : Array Oper) (dst : Option Tmp) (t : TypeId) (x y : Operand) (ty : TypeId) (pos : String) (after : Array Edge) (jw : Nat × Bool) (os : List Oper) (k : List Fr) (Q : X → S → Prop) (s : S) :
    kont E (.ops dr all (⟨dst, .indexAddr t x y, ty, pos, after, some jw⟩ :: os) :: k) Q .normal s = aftG dr (grd all s (some jw)) (opR E s ty (.indexAddr t x y)) (Op.indexAddr t x y).operands.toList dst all os k E Q s := keep rfl
theorem run_index (dr : Bool) (all : Array Oper) (dst : Option Tmp) (t : TypeId) (x y : Operand) (ty : TypeId) (pos : String) (after : Array Edge) (os : List Oper) (k : List Fr) (Q : X → S → Prop) (s : S) :
    kont E (.ops dr all (⟨dst, .index t x y, ty, pos, after, none⟩ :: os) :: k) Q .normal s = (needs true s (Op.index t x y).operands.toList ∧ aftR dr (opR E s ty (.index t x y)) dst all os k E Q) := keep rfl
theorem runG_index (dr : Bool) (all : Array Oper) (dst : Option Tmp) (t : TypeId) (x y : Operand) (ty : TypeId) (pos : String) (after : Array Edge) (jw : Nat × Bool) (os : List Oper) (k : List Fr) (Q : X → S → Prop) (s : S) :
    kont E (.ops dr all (⟨dst, .index t x y, ty, pos, after, some jw⟩ :: os) :: k) Q .normal s = aftG dr (grd all s (some jw)) (opR E s ty (.index t x y)) (Op.index t x y).operands.toList dst all os k E Q s := keep rfl
theorem run_extract (dr : Bool) (all : Array Oper) (dst : Option Tmp) (x : Operand) (n : Nat) (ty : TypeId) (pos : String) (after : Array Edge) (os : List Oper) (k : List Fr) (Q : X → S → Prop) (s : S) :
    kont E (.ops dr all (⟨dst, .extract x n, ty, pos, after, none⟩ :: os) :: k) Q .normal s = (needs true s (Op.extract x n).operands.toList ∧ aftR dr (opR E s ty (.extract x n)) dst all os k E Q) := keep rfl
theorem runG_extract (dr : Bool) (all : Array Oper) (dst : Option Tmp) (x : Operand) (n : Nat) (ty : TypeId) (pos : String) (after : Array Edge) (jw : Nat × Bool) (os : List Oper) (k : List Fr) (Q : X → S → Prop) (s : S) :
    kont E (.ops dr all (⟨dst, .extract x n, ty, pos, after, some jw⟩ :: os) :: k) Q .normal s = aftG dr (grd all s (some jw)) (opR E s ty (.extract x n)) (Op.extract x n).operands.toList dst all os k E Q s := keep rfl
theorem run_call (dr : Bool) (all : Array Oper) (dst : Option Tmp) (c : Call) (ty : TypeId) (pos : String) (after : Array Edge) (os : List Oper) (k : List Fr) (Q : X → S → Prop) (s : S) :
    kont E (.ops dr all (⟨dst, .call c, ty, pos, after, none⟩ :: os) :: k) Q .normal s = (needs true s (Op.call c).operands.toList ∧ aftR dr (opR E s ty (.call c)) dst all os k E Q) := keep rfl
theorem runG_call (dr : Bool) (all : Array Oper) (dst : Option Tmp) (c : Call) (ty : TypeId) (pos : String) (after : Array Edge) (jw : Nat × Bool) (os : List Oper) (k : List Fr) (Q : X → S → Prop) (s : S) :
    kont E (.ops dr all (⟨dst, .call c, ty, pos, after, some jw⟩ :: os) :: k) Q .normal s = aftG dr (grd all s (some jw)) (opR E s ty (.call c)) (Op.call c).operands.toList dst all os k E Q s := keep rfl
theorem run_makeInterface (dr : Bool) (all : Array Oper) (dst : Option Tmp) (t : TypeId) (x : Operand) (ty : TypeId) (pos : String) (after : Array Edge) (os : List Oper) (k : List Fr) (Q : X → S → Prop) (s : S) :
    kont E (.ops dr all (⟨dst, .makeInterface t x, ty, pos, after, none⟩ :: os) :: k) Q .normal s = (needs true s (Op.makeInterface t x).operands.toList ∧ aftR dr (opR E s ty (.makeInterface t x)) dst all os k E Q) := keep rfl
theorem runG_makeInterface (dr : Bool) (all : Array Oper) (dst : Option Tmp) (t : TypeId) (x : Operand) (ty : TypeId) (pos : String) (after : Array Edge) (jw : Nat × Bool) (os : List Oper) (k : List Fr) (Q : X → S → Prop) (s : S) :
    kont E (.ops dr all (⟨dst, .makeInterface t x, ty, pos, after, some jw⟩ :: os) :: k) Q .normal s = aftG dr (grd all s (some jw)) (opR E s ty (.makeInterface t x)) (Op.makeInterface t x).operands.toList dst all os k E Q s := keep rfl
theorem run_makeMap (dr : Bool) (all : Array Oper) (dst : Option Tmp) (t : TypeId) (r : Option Operand) (ty : TypeId) (pos : String) (after : Array Edge) (os : List Oper) (k : List Fr) (Q : X → S → Prop) (s : S) :
    kont E (.ops dr all (⟨dst, .makeMap t r, ty, pos, after, none⟩ :: os) :: k) Q .normal s = (needs true s (Op.makeMap t r).operands.toList ∧ aftR dr (opR E s ty (.makeMap t r)) dst all os k E Q) := keep rfl
theorem runG_makeMap (dr : Bool) (all : Array Oper) (dst : Option Tmp) (t : TypeId) (r : Option Operand) (ty : TypeId) (pos : String) (after : Array Edge) (jw : Nat × Bool) (os : List Oper) (k : List Fr) (Q : X → S → Prop) (s : S) :
    kont E (.ops dr all (⟨dst, .makeMap t r, ty, pos, after, some jw⟩ :: os) :: k) Q .normal s = aftG dr (grd all s (some jw)) (opR E s ty (.makeMap t r)) (Op.makeMap t r).operands.toList dst all os k E Q s := keep rfl
theorem run_lookup (dr : Bool) (all : Array Oper) (dst : Option Tmp) (t : TypeId) (x y : Operand) (b : Bool) (ty : TypeId) (pos : String) (after : Array Edge) (os : List Oper) (k : List Fr) (Q : X → S → Prop) (s : S) :
    kont E (.ops dr all (⟨dst, .lookup t x y b, ty, pos, after, none⟩ :: os) :: k) Q .normal s = (needs true s (Op.lookup t x y b).operands.toList ∧ aftR dr (opR E s ty (.lookup t x y b)) dst all os k E Q) := keep rfl
theorem runG_lookup (dr : Bool) (all : Array Oper) (dst : Option Tmp) (t : TypeId) (x y : Operand) (b : Bool) (ty : TypeId) (pos : String) (after : Array Edge) (jw : Nat × Bool) (os : List Oper) (k : List Fr) (Q : X → S → Prop) (s : S) :
    kont E (.ops dr all (⟨dst, .lookup t x y b, ty, pos, after, some jw⟩ :: os) :: k) Q .normal s = aftG dr (grd all s (some jw)) (opR E s ty (.lookup t x y b)) (Op.lookup t x y b).operands.toList dst all os k E Q s := keep rfl
theorem run_mapUpdate (dr : Bool) (all : Array Oper) (dst : Option Tmp) (t : TypeId) (x y z : Operand) (ty : TypeId) (pos : String) (after : Array Edge) (os : List Oper) (k : List Fr) (Q : X → S → Prop) (s : S) :
    kont E (.ops dr all (⟨dst, .mapUpdate t x y z, ty, pos, after, none⟩ :: os) :: k) Q .normal s = (needs true s (Op.mapUpdate t x y z).operands.toList ∧ aftR dr (opR E s ty (.mapUpdate t x y z)) dst all os k E Q) := keep rfl
theorem runG_mapUpdate (dr : Bool) (all : Array Oper) (dst : Option Tmp) (t : TypeId) (x y z : Operand) (ty : TypeId) (pos : String) (after : Array Edge) (jw : Nat × Bool) (os : List Oper) (k : List Fr) (Q : X → S → Prop) (s : S) :
    kont E (.ops dr all (⟨dst, .mapUpdate t x y z, ty, pos, after, some jw⟩ :: os) :: k) Q .normal s = aftG dr (grd all s (some jw)) (opR E s ty (.mapUpdate t x y z)) (Op.mapUpdate t x y z).operands.toList dst all os k E Q s := keep rfl
theorem run_insert (dr : Bool) (all : Array Oper) (dst : Option Tmp) (t : TypeId) (x y z : Operand) (ty : TypeId) (pos : String) (after : Array Edge) (os : List Oper) (k : List Fr) (Q : X → S → Prop) (s : S) :
    kont E (.ops dr all (⟨dst, .insert t x y z, ty, pos, after, none⟩ :: os) :: k) Q .normal s = (needs true s (Op.insert t x y z).operands.toList ∧ aftR dr (opR E s ty (.insert t x y z)) dst all os k E Q) := keep rfl
theorem runG_insert (dr : Bool) (all : Array Oper) (dst : Option Tmp) (t : TypeId) (x y z : Operand) (ty : TypeId) (pos : String) (after : Array Edge) (jw : Nat × Bool) (os : List Oper) (k : List Fr) (Q : X → S → Prop) (s : S) :
    kont E (.ops dr all (⟨dst, .insert t x y z, ty, pos, after, some jw⟩ :: os) :: k) Q .normal s = aftG dr (grd all s (some jw)) (opR E s ty (.insert t x y z)) (Op.insert t x y z).operands.toList dst all os k E Q s := keep rfl
theorem run_pick (dr : Bool) (all : Array Oper) (dst : Option Tmp) (c a b : Operand) (ty : TypeId) (pos : String) (after : Array Edge) (os : List Oper) (k : List Fr) (Q : X → S → Prop) (s : S) :
    kont E (.ops dr all (⟨dst, .pick c a b, ty, pos, after, none⟩ :: os) :: k) Q .normal s = aftP dr (bareB s c) (opnd s a) (opnd s b) a b dst all os k E Q s := keep rfl
theorem run_pickg (dr : Bool) (all : Array Oper) (dst : Option Tmp) (c a b : Operand) (ty : TypeId) (pos : String) (after : Array Edge) (jw : Nat × Bool) (os : List Oper) (k : List Fr) (Q : X → S → Prop) (s : S) :
    kont E (.ops dr all (⟨dst, .pick c a b, ty, pos, after, some jw⟩ :: os) :: k) Q .normal s = aftQ dr (grd all s (some jw)) (opnd s c) (opnd s a) (opnd s b) c a b dst all os k E Q s := keep rfl
theorem run_cond (c : Operand) (a b : Code) (k : List Fr) (Q : X → S → Prop) (s : S) :
    kont E (.code (.cond c a b) :: k) Q .normal s = aftC (opnd s c) c a b k E Q s := by
  simp only [kont, codeW, aftC]
  rfl
end
section
variable {E : Env}
attribute [simp] treeK_rig rigI_some treeK_done treeK_one treeK_two treeK_three treeK_bare joinQ_app TT.seq preK_nil preK_cons memI_some preI_read preI_lone aftE_some cutL run_seq run_region run_regionD run_nil run_skip run_exit run_ret run_done run_block run_blk run_blk_ret run_blk_exit run_code_ret run_code_exit run_lp_ret run_lp_exit run_lp run_cond run_pick run_pickg
attribute [simp] run_move runG_move run_assign runG_assign run_alloc runG_alloc run_box runG_box run_build runG_build run_buildSlice runG_buildSlice run_load runG_load run_store runG_store run_nilCheck runG_nilCheck run_binOp runG_binOp run_unOp runG_unOp run_convert runG_convert run_makeFunc runG_makeFunc run_makeSlice runG_makeSlice run_slice runG_slice run_fieldAddr runG_fieldAddr run_field runG_field run_indexAddr runG_indexAddr run_index runG_index run_extract runG_extract run_call runG_call run_makeInterface runG_makeInterface run_makeMap runG_makeMap run_lookup runG_lookup run_mapUpdate runG_mapUpdate run_insert runG_insert
@[simp] theorem aftR_mk (dr : Bool) (c : Prop) (v : V) (s : S) (p q : Bool) (d : Option Tmp) (all : Array Oper) (os : List Oper) (k : List Fr) (Q : X → S → Prop) :
    aftR dr ⟨c, v, s, p, q⟩ d all os k E Q = ((c ∧ (dr = true → q = true)) ∧ kont E (.ops dr all os :: k) Q .normal (s.put d v)) := keep rfl
@[simp] theorem aftG_true (dr : Bool) (G : Bool) (c : Prop) (v : V) (s' : S) (us : List Operand) (d : Option Tmp) (all : Array Oper) (os : List Oper) (k : List Fr) (Q : X → S → Prop) (s : S) :
    aftG dr (some G) ⟨c, v, s', true, true⟩ us d all os k E Q s = ((needs G s us ∧ (G = true → c)) ∧ kont E (.ops dr all os :: k) Q .normal (s.put d (.cnd G v))) := by simp [aftG]
@[simp] theorem aftG_false (dr : Bool) (G : Bool) (c : Prop) (v : V) (s' : S) (q : Bool) (us : List Operand) (d : Option Tmp) (all : Array Oper) (os : List Oper) (k : List Fr) (Q : X → S → Prop) (s : S) :
    aftG dr (some G) ⟨c, v, s', false, q⟩ us d all os k E Q s = ((needs G s us ∧ (G = true → c ∧ (dr = true → q = true))) ∧ (if G = true then kont E (.ops dr all os :: k) Q .normal (s'.put d v) else kont E (.ops dr all os :: k) Q .normal (s.put d (.tup [])))) := by simp [aftG]
@[simp] theorem aftC_bool (v : Bool) (c : Operand) (a b : Code) (k : List Fr) (Q : X → S → Prop) (s : S) :
    aftC (.bool v) c a b k E Q s = (needs true s [c] ∧ (if v = true then kont E (.code a :: k) Q .normal s else kont E (.code b :: k) Q .normal s)) := keep rfl
@[simp] theorem aftC_any (c : Operand) (a b : Code) (k : List Fr) (Q : X → S → Prop) (s : S) :
    aftC .anyB c a b k E Q s = (needs true s [c] ∧ kont E (.code a :: k) Q .normal s ∧ kont E (.code b :: k) Q .normal s) := keep rfl
@[simp] theorem nilB_nil (n : Bool) : nilB n [] = .anyB := keep rfl
@[simp] theorem nilB_cons (n : Bool) (x : V) (xs : List V) : nilB n (x :: xs) = .bool n := keep rfl
@[simp] theorem st_anyB : st .anyB = .anyB := keep rfl
@[simp] theorem adR_anyB (ty : Option Nat) (s : S) : adR ty .anyB s = .ok .anyB s := keep rfl
@[simp] theorem aftP_bool (dr : Bool) (g x y : Bool) (xa xb : Operand) (d : Option Tmp) (all : Array Oper) (os : List Oper) (k : List Fr) (Q : X → S → Prop) (s : S) :
    aftP dr (.bool g) (.bool x) (.bool y) xa xb d all os k E Q s = ((needs g s [xa] ∧ needs (!g) s [xb]) ∧ kont E (.ops dr all os :: k) Q .normal (s.put d (.bool (bif g then x else y)))) := keep rfl
@[simp] theorem aftP_badF (dr : Bool) (y : V) (xa xb : Operand) (d : Option Tmp) (all : Array Oper) (os : List Oper) (k : List Fr) (Q : X → S → Prop) (s : S) :
    aftP dr (.bool false) .bad y xa xb d all os k E Q s = ((needs false s [xa] ∧ needs true s [xb]) ∧ kont E (.ops dr all os :: k) Q .normal (s.put d y)) := by
  cases y <;> simp [aftP]
@[simp] theorem aftP_Tbad (dr : Bool) (y : V) (xa xb : Operand) (d : Option Tmp) (all : Array Oper) (os : List Oper) (k : List Fr) (Q : X → S → Prop) (s : S) :
    aftP dr (.bool true) y .bad xa xb d all os k E Q s = ((needs true s [xa] ∧ needs false s [xb]) ∧ kont E (.ops dr all os :: k) Q .normal (s.put d y)) := by
  cases y <;> simp [aftP]
@[simp] theorem aftQ_badF (dr : Bool) (G : Bool) (y : V) (xc xa xb : Operand) (d : Option Tmp) (all : Array Oper) (os : List Oper) (k : List Fr) (Q : X → S → Prop) (s : S) :
    aftQ dr (some G) (.bool false) .bad y xc xa xb d all os k E Q s = (if G = true then (needs true s [xc] ∧ needs false s [xa] ∧ needs true s [xb]) ∧ kont E (.ops dr all os :: k) Q .normal (s.put d (.cnd true y)) else kont E (.ops dr all os :: k) Q .normal (s.put d (.cnd false .bad))) := by
  cases y <;> simp [aftQ]
@[simp] theorem aftQ_Tbad (dr : Bool) (G : Bool) (y : V) (xc xa xb : Operand) (d : Option Tmp) (all : Array Oper) (os : List Oper) (k : List Fr) (Q : X → S → Prop) (s : S) :
    aftQ dr (some G) (.bool true) y .bad xc xa xb d all os k E Q s = (if G = true then (needs true s [xc] ∧ needs true s [xa] ∧ needs false s [xb]) ∧ kont E (.ops dr all os :: k) Q .normal (s.put d (.cnd true y)) else kont E (.ops dr all os :: k) Q .normal (s.put d (.cnd false .bad))) := by
  cases y <;> simp [aftQ]
@[simp] theorem aftQ_cbad (dr : Bool) (G : Bool) (x y : V) (xc xa xb : Operand) (d : Option Tmp) (all : Array Oper) (os : List Oper) (k : List Fr) (Q : X → S → Prop) (s : S) :
    aftQ dr (some G) .bad x y xc xa xb d all os k E Q s = (if G = true then False else kont E (.ops dr all os :: k) Q .normal (s.put d (.cnd false .bad))) := by
  cases x <;> cases y <;> simp [aftQ]
@[simp] theorem aftQ_bool (dr : Bool) (G g x y : Bool) (xc xa xb : Operand) (d : Option Tmp) (all : Array Oper) (os : List Oper) (k : List Fr) (Q : X → S → Prop) (s : S) :
    aftQ dr (some G) (.bool g) (.bool x) (.bool y) xc xa xb d all os k E Q s = ((needs G s [xc] ∧ needs (G && g) s [xa] ∧ needs (G && !g) s [xb]) ∧ kont E (.ops dr all os :: k) Q .normal (s.put d (.cnd G (.bool (bif g then x else y))))) := keep rfl
@[simp] theorem put_same (s : S) (d : Nat) (v : V) : (s.put (some d) v).e d = v := by simp [S.put]
@[simp] theorem put_ne (s : S) (d x : Nat) (v : V) (h : ¬ x = d) : (s.put (some d) v).e x = s.e x := by simp [S.put, h]
@[simp] theorem put_B (s : S) (d : Option Nat) (v : V) : (s.put d v).B = s.B := by cases d <;> rfl
@[simp] theorem put_nt (s : S) (d : Option Nat) (v : V) : (s.put d v).nt = s.nt := by cases d <;> rfl
@[simp] theorem put_nb (s : S) (d : Option Nat) (v : V) : (s.put d v).nb = s.nb := by cases d <;> rfl
@[simp] theorem put_none (s : S) (v : V) : s.put none v = s := keep rfl
@[simp] theorem opnd_tmp (s : S) (t : Nat) : opnd s (.tmp t) = st (s.e t) := keep rfl
@[simp] theorem bare_tmp (s : S) (t : Nat) : bareB s (.tmp t) = s.e t := keep rfl
@[simp] theorem bare_const (s : S) (v : Value) : bareB s (.const v) = opnd s (.const v) := keep rfl
@[simp] theorem opnd_func (s : S) (f : Nat) : opnd s (.func f) = .fn f [] := keep rfl
@[simp] theorem opnd_int (s : S) (k : IntKind) (n : Int) : opnd s (.const (.int k n)) = .int k n := keep rfl
@[simp] theorem opnd_bool (s : S) (b : Bool) : opnd s (.const (.bool b)) = .bool b := keep rfl
@[simp] theorem opnd_str (s : S) (b : ByteArray) : opnd s (.const (.string b)) = .str b := keep rfl
@[simp] theorem opnd_nili (s : S) : opnd s (.const .nilIface) = .nili := keep rfl
@[simp] theorem opnd_nil (s : S) : opnd s (.const (.slice none 0 0)) = .inl 0 [] := keep rfl
@[simp] theorem st_cnd (g : Bool) (v : V) : st (.cnd g v) = v := keep rfl
@[simp] theorem st_int (k : IntKind) (n : Int) : st (.int k n) = .int k n := keep rfl
@[simp] theorem st_bool (b : Bool) : st (.bool b) = .bool b := keep rfl
@[simp] theorem st_str (b : ByteArray) : st (.str b) = .str b := keep rfl
@[simp] theorem st_lst (b : List V) : st (.lst b) = .lst b := keep rfl
@[simp] theorem st_inl (z : Nat) (b : List V) : st (.inl z b) = .inl z b := keep rfl
@[simp] theorem st_own (t : Nat) : st (.own t) = .own t := keep rfl
@[simp] theorem st_sub (t i o : Nat) : st (.sub t i o) = .sub t i o := keep rfl
@[simp] theorem st_sadr (t i o z j p : Nat) : st (.sadr t i o z j p) = .sadr t i o z j p := keep rfl
@[simp] theorem st_nilp : st .nilp = .nilp := keep rfl
@[simp] theorem st_nili : st .nili = .nili := keep rfl
@[simp] theorem st_agg (b : List V) : st (.agg b) = .agg b := keep rfl
@[simp] theorem st_tup (b : List V) : st (.tup b) = .tup b := keep rfl
@[simp] theorem st_ptr (b o : Nat) : st (.ptr b o) = .ptr b o := keep rfl
@[simp] theorem st_ladr (xs : List V) (b o : Nat) : st (.ladr xs b o) = .ladr xs b o := keep rfl
@[simp] theorem st_oadr (t z b o : Nat) : st (.oadr t z b o) = .oadr t z b o := keep rfl
@[simp] theorem st_fn (f : Nat) (xs : List V) : st (.fn f xs) = .fn f xs := keep rfl
@[simp] theorem adR_int (ty : Option Nat) (k : IntKind) (n : Int) (s : S) : adR ty (.int k n) s = .ok (.int k n) s := keep rfl
@[simp] theorem adR_bool (ty : Option Nat) (k : Bool) (s : S) : adR ty (.bool k) s = .ok (.bool k) s := keep rfl
@[simp] theorem adR_str (ty : Option Nat) (k : ByteArray) (s : S) : adR ty (.str k) s = .ok (.str k) s := keep rfl
@[simp] theorem adR_lst (ty : Option Nat) (k : List V) (s : S) : adR ty (.lst k) s = .ok (.lst k) s := keep rfl
@[simp] theorem adR_own (ty : Option Nat) (t : Nat) (s : S) : adR ty (.own t) s = .ok (.own t) s := keep rfl
@[simp] theorem adR_sub (ty : Option Nat) (t i o : Nat) (s : S) : adR ty (.sub t i o) s = .ok (.sub t i o) s := keep rfl
@[simp] theorem adR_oadr (ty : Option Nat) (t z i o : Nat) (s : S) : adR ty (.oadr t z i o) s = .ok (.oadr t z i o) s := keep rfl
@[simp] theorem adR_ladr (ty : Option Nat) (xs : List V) (i o : Nat) (s : S) : adR ty (.ladr xs i o) s = .ok (.ladr xs i o) s := keep rfl
@[simp] theorem adR_bad (ty : Option Nat) (s : S) : adR ty .bad s = .ok .bad s := keep rfl
@[simp] theorem adR_nilp (ty : Option Nat) (s : S) : adR ty .nilp s = .ok .nilp s := keep rfl
@[simp] theorem adR_nili (ty : Option Nat) (s : S) : adR ty .nili s = .ok .nili s := keep rfl
@[simp] theorem adR_ptr (ty : Option Nat) (b o : Nat) (s : S) : adR ty (.ptr b o) s = .ok (.ptr b o) s := keep rfl
@[simp] theorem adR_tup (ty : Option Nat) (k : List V) (s : S) : adR ty (.tup k) s = .ok (.tup k) s := keep rfl
@[simp] theorem adR_fn (ty : Option Nat) (f : Nat) (k : List V) (s : S) : adR ty (.fn f k) s = .ok (.fn f k) s := keep rfl
@[simp] theorem adR_nil (ty : Option Nat) (s : S) : adR ty (.inl 0 []) s = .ad True (.own s.nt) (s.newR (ty.getD 0) []) := keep rfl
@[simp] theorem adR_agg (ty : Option Nat) (k : List V) (s : S) : adR ty (.agg k) s = if isInl (.agg k) = true then .ad True (adC (.agg k) s).1 (adC (.agg k) s).2 else .ok (.agg k) s := keep rfl
@[simp] theorem put_R (s : S) (d : Option Nat) (v : V) : (s.put d v).R = s.R := by cases d <;> rfl
@[simp] theorem setR_e (s : S) (t : Nat) (r : Option Rw) : (s.setR t r).e = s.e := keep rfl
@[simp] theorem setR_B (s : S) (t : Nat) (r : Option Rw) : (s.setR t r).B = s.B := keep rfl
@[simp] theorem setR_nt (s : S) (t : Nat) (r : Option Rw) : (s.setR t r).nt = s.nt := keep rfl
@[simp] theorem setR_nb (s : S) (t : Nat) (r : Option Rw) : (s.setR t r).nb = s.nb := keep rfl
@[simp] theorem setR_R (s : S) (t x : Nat) (r : Option Rw) : (s.setR t r).R x = if x = t then r else s.R x := keep rfl
@[simp] theorem newR_e' (s : S) (z : Nat) (xs : List V) : (s.newR z xs).e = s.e := keep rfl
@[simp] theorem newR_B (s : S) (z : Nat) (xs : List V) : (s.newR z xs).B = s.B := keep rfl
@[simp] theorem newR_nt (s : S) (z : Nat) (xs : List V) : (s.newR z xs).nt = s.nt + 1 := keep rfl
@[simp] theorem newR_nb (s : S) (z : Nat) (xs : List V) : (s.newR z xs).nb = s.nb := keep rfl
@[simp] theorem newR_R (s : S) (x z : Nat) (xs : List V) : (s.newR z xs).R x = if x = s.nt then some ⟨z, xs, true⟩ else s.R x := keep rfl
@[simp] theorem setB_e (s : S) (t : Nat) (r : Option V) : (s.setB t r).e = s.e := keep rfl
@[simp] theorem setB_R (s : S) (t : Nat) (r : Option V) : (s.setB t r).R = s.R := keep rfl
@[simp] theorem setB_nt (s : S) (t : Nat) (r : Option V) : (s.setB t r).nt = s.nt := keep rfl
@[simp] theorem setB_nb (s : S) (t : Nat) (r : Option V) : (s.setB t r).nb = s.nb := keep rfl
@[simp] theorem setB_B (s : S) (t x : Nat) (r : Option V) : (s.setB t r).B x = if x = t then r else s.B x := keep rfl
@[simp] theorem newB_e (s : S) (c : V) : (s.newB c).e = s.e := keep rfl
@[simp] theorem newB_R (s : S) (c : V) : (s.newB c).R = s.R := keep rfl
@[simp] theorem newB_nt (s : S) (c : V) : (s.newB c).nt = s.nt := keep rfl
@[simp] theorem newB_nb (s : S) (c : V) : (s.newB c).nb = s.nb + 1 := keep rfl
@[simp] theorem newB_B (s : S) (x : Nat) (c : V) : (s.newB c).B x = if x = s.nb then some c else s.B x := keep rfl
@[simp] theorem zero_e (x : Nat) : S.zero.e x = .tup [] := keep rfl
@[simp] theorem zero_R (x : Nat) : S.zero.R x = none := keep rfl
@[simp] theorem zero_B (x : Nat) : S.zero.B x = none := keep rfl
@[simp] theorem zero_nt : S.zero.nt = 0 := keep rfl
@[simp] theorem zero_nb : S.zero.nb = 0 := keep rfl
@[simp] theorem leaves_agg (xs : List V) : leaves (.agg xs) = xs := keep rfl
@[simp] theorem leaves_int (k : IntKind) (n : Int) : leaves (.int k n) = [.int k n] := keep rfl
@[simp] theorem leaves_bool (b : Bool) : leaves (.bool b) = [.bool b] := keep rfl
@[simp] theorem leaves_str (b : ByteArray) : leaves (.str b) = [.str b] := keep rfl
@[simp] theorem leaves_lst (xs : List V) : leaves (.lst xs) = [.lst xs] := keep rfl
@[simp] theorem leaves_inl (z : Nat) (xs : List V) : leaves (.inl z xs) = [.inl z xs] := keep rfl
@[simp] theorem leaves_own (t : Nat) : leaves (.own t) = [.own t] := keep rfl
@[simp] theorem leaves_sub (t i o : Nat) : leaves (.sub t i o) = [.sub t i o] := keep rfl
@[simp] theorem leaves_ptr (b o : Nat) : leaves (.ptr b o) = [.ptr b o] := keep rfl
@[simp] theorem leaves_fn (f : Nat) (c : List V) : leaves (.fn f c) = [.fn f c] := keep rfl
@[simp] theorem leaves_nilp  : leaves (.nilp) = [.nilp] := keep rfl
@[simp] theorem leaves_nili  : leaves (.nili) = [.nili] := keep rfl
@[simp] theorem leaves_bad  : leaves (.bad) = [.bad] := keep rfl
@[simp] theorem leaves_ladr (xs : List V) (i o : Nat) : leaves (.ladr xs i o) = [.ladr xs i o] := keep rfl
@[simp] theorem leaves_oadr (t z i o : Nat) : leaves (.oadr t z i o) = [.oadr t z i o] := keep rfl
attribute [simp] needs grd R.no R.ok R.if_ R.ad R.st opR nilIR binR unR indexR indexAddrR fieldAddrR optR fieldR loadR nilR extractR cutR cut0R highR lenR valueR callR isInl isInlL adL adLs adC ad1 ad1s ad onL onL1 onC showL showP showQ argsQ frL isLad closeL contL closeB closeR tokL tokG nilCmpR sameK sameKs eqL eqLs toks toks1 boxesL boxes1 boxes2 flatL flat1 flatV getAt vw vwE ownL Op.operands Call.operands resN resR isTup isPtr rdL rdLs eatL eat1 rowL rowV boxL boxV isRowL srcR putAt setLeaf appendR buildSliceR makeSliceR allocR boxOpR storeR buildR buildFill convR argsR ftoks S.drops S.stills S.still S.wrT norm norms
end
def okX : X → Prop
  | .exit _ => False
  | _ => True
@[simp] theorem okX_ret : okX .ret = True := keep rfl
@[simp] theorem okX_normal : okX .normal = True := keep rfl
def resOfL (E : Env) (rs : List ResultVar) (s : S) : V :=
  match rs.map (resR E s) with
  | [r] => r.v
  | rs => .tup (rs.map (·.v))
def EndsQ (E : Env) (rs : List ResultVar) (k : Nat) (a : Ans) (x : X) (s : S) : Prop :=
  match x with
  | .exit _ => False
  | _ => ((∀ v ∈ rs, resN s v ∧ (resR E s v).c ∧ isTup (resR E s v).v = false) ∧ (resToks s (resOfL E rs s) ++ liveOuts s 0 a.outs ++ (List.range k).flatMap s.boxToks).Nodup ∧ (resBoxes (resOfL E rs s)).Nodup ∧
      (a.sh = false → noL a.r = true ∧ noLs a.outs = true) ∧ ((List.range k).all fun i => (s.B i).isSome) = true) ∧ outsOk s 0 a.outs ∧ boxOuts s k = a.boxes ∧ closeR s k (resOfL E rs s) = a.r
theorem EndsG_eq {E : Env} {f : Func} {k : Nat} {a : Ans} {rs : List ResultVar} (h : f.results.toList = rs) : EndsG E f k a = EndsQ E rs k a := by
  subst h
  funext x s
  cases x <;> rfl
@[simp] theorem EndsQ_ret (E : Env) (rs : List ResultVar) (k : Nat) (a : Ans) (s : S) : EndsQ E rs k a .ret s = (((∀ v ∈ rs, resN s v ∧ (resR E s v).c ∧ isTup (resR E s v).v = false) ∧ (resToks s (resOfL E rs s) ++ liveOuts s 0 a.outs ++ (List.range k).flatMap s.boxToks).Nodup ∧ (resBoxes (resOfL E rs s)).Nodup ∧
      (a.sh = false → noL a.r = true ∧ noLs a.outs = true) ∧ ((List.range k).all fun i => (s.B i).isSome) = true) ∧ outsOk s 0 a.outs ∧ boxOuts s k = a.boxes ∧ closeR s k (resOfL E rs s) = a.r) := keep rfl
@[simp] theorem EndsQ_normal (E : Env) (rs : List ResultVar) (k : Nat) (a : Ans) (s : S) : EndsQ E rs k a .normal s = EndsQ E rs k a .ret s := keep rfl
theorem FunW_run {E : Env} {f : Func} {args : List V} {sh : Bool} {r : V} (c : Code) (rs : List ResultVar) (hc : f.body = some c) (hr : f.results.toList = rs) (h : kont E [.code c] (EndsQ E rs 0 ⟨sh, r, [], []⟩) .normal (start args [])) : FunW E f args sh r := by
  unfold FunW
  rw [hc]
  rw [← EndsG_eq hr] at h
  refine codeW_mono c _ _ _ ?_ h
  intro x s hx
  cases x <;> exact hx
theorem FunG_run {E : Env} {f : Func} {args cs : List V} {a : Ans} (c : Code) (rs : List ResultVar) (hc : f.body = some c) (hr : f.results.toList = rs) (h : kont E [.code c] (EndsQ E rs cs.length a) .normal (start args cs)) : FunG E f args cs a := by
  unfold FunG
  rw [hc]
  rw [← EndsG_eq hr] at h
  refine codeW_mono c _ _ _ ?_ h
  intro x s hx
  cases x <;> exact hx
attribute [simp] resOfL resToks resToks1 resBoxes liveOuts outsOk boxOuts S.outR isBad noL noLs S.boxToks S.cont adCs start
theorem lp_ind {E : Env} {c : Code} {k : List Fr} {Q : X → S → Prop} {s0 : S} (I : Nat → S → Prop) (n : Nat) (h0 : I n s0)
    (step : ∀ (c' : Code) (L : S → Prop), (∀ s, kont E (.lp c' :: k) Q .normal s = L s) → ∀ m s, (∀ m' s', m' < m → I m' s' → L s') → I m s → kont E (.code c :: .lp c' :: k) Q .normal s) :
    kont E (.lp c :: k) Q .normal s0 := by
  have key : ∀ m s, I m s → kont E (.lp c :: k) Q .normal s := by
    intro m
    induction m using Nat.strongRecOn with
    | _ m ih => exact fun s h => run_loop (step c _ (fun _ => rfl) m s (fun m' s' hm h' => ih m' hm s' h') h)
  exact key n s0 h0
theorem wrap_i64 (n : Int) (h0 : -9223372036854775808 ≤ n) (h1 : n ≤ 9223372036854775807) : IntKind.wrap .i64 n = n := by
  unfold IntKind.wrap IntKind.bits IntKind.signed
  simp
  omega
end Go.TM
end
section
namespace Go.TM
open Go
def leafT (P : Program) : Nat → TypeId → Option (List V)
  | 0, _ => none
  | n + 1, t => match P.underlying t with
    | some (.slice e) => (P.info? e).map fun i => [.inl i.size []]
    | some (.struct fs) => (fs.toList.mapM fun f => leafT P n f.type).map List.flatten
    | some (.int k) => some [.int k 0]
    | some .bool => some [.bool false]
    | some .string => some [.str ⟨#[]⟩]
    | some (.pointer _) => some [.nilp]
    | some (.interface _) => some [.nili]
    | some (.map _ _) => some [.raw (.mp none)]
    | _ => none
def zLb : V → Value → Bool
  | .int k n, .int k' n' => decide (k = k') && decide (n = n')
  | .bool b, .bool b' => b == b'
  | .str s, .string s' => decide (s = s')
  | .inl _ [], .slice none 0 0 => true
  | .nilp, .pointer none => true
  | .nili, .nilIface => true
  | .raw (.mp none), .map none => true
  | _, _ => false
def zLbs : List V → List Value → Bool
  | [], [] => true
  | x :: xs, v :: vs => zLb x v && zLbs xs vs
  | _, _ => false
def zRb : V → Value → Bool
  | .agg xs, .agg vs => zLbs xs vs.toList
  | .agg _, _ => false
  | x, v => zLb x v
theorem zLb_ok {x : V} {v : Value} (h : zLb x v = true) : zL x v := by
  unfold zLb at h
  split at h <;> simp_all [zL, Hdr.val]
theorem zLbs_ok : ∀ {xs : List V} {vs : List Value}, zLbs xs vs = true → All2 zL xs vs
  | [], [], _ => trivial
  | x :: xs, v :: vs, h => by
    simp only [zLbs, Bool.and_eq_true] at h
    exact ⟨zLb_ok h.1, zLbs_ok h.2⟩
  | [], _ :: _, h => by simp [zLbs] at h
  | _ :: _, [], h => by simp [zLbs] at h
theorem zRb_ok {x : V} {v : Value} (h : zRb x v = true) : zR x v := by
  unfold zRb at h
  split at h
  · rename_i xs vs
    exact ⟨vs.toList, by simp, zLbs_ok h⟩
  · cases h
  · rename_i h1 h2
    cases x <;> first | exact zLb_ok h | (simp [zLb] at h; done)
def aggD : TypeDesc → Bool
  | .struct _ => true
  | .array _ _ => true
  | _ => false
def zOf (d : TypeDesc) (ls : List V) : V := if aggD d = true then .agg ls else ls.getD 0 .bad
def tiIf (b : Bool) (i : TI) : Option TI := match b with
  | true => some i
  | false => none
def tiOf (P : Program) (t : TypeId) : Option TI :=
  match P.info? t, P.underlying t, leafT P 8 t with
  | some f, some d, some ls => match f.zero with
    | some z => tiIf (zRb (zOf d ls) z && (leaves (zOf d ls)).length == f.size) ⟨f.size, aggD d, f.bytes, zOf d ls⟩
    | none => none
  | _, _, _ => none
theorem tiOf_ok {P : Program} {t : TypeId} {i : TI} (h : tiOf P t = some i) : TiOK P t i := by
  unfold tiOf at h
  split at h
  · rename_i f d ls hf hd hl
    split at h
    · rename_i z hz
      generalize hc : (zRb (zOf d ls) z && (leaves (zOf d ls)).length == f.size) = b at h
      cases b with
      | true =>
        simp only [tiIf, Option.some.injEq] at h
        subst h
        simp only [Bool.and_eq_true, beq_iff_eq] at hc
        refine ⟨⟨f, hf, rfl, rfl, z, hz, zRb_ok hc.1⟩, fun w => ?_, hc.2⟩
        simp only [isAgg, Sem.run_bind, run_und hd]
        cases d <;> rfl
      | false => cases h
    · cases h
  · cases h
def elOf (P : Program) (t : TypeId) : Option TypeId :=
  match P.underlying t with
  | some (.slice e) => some e
  | _ => none
def fldOf (P : Program) (t : TypeId) (f : Nat) : Option (Nat × TypeId) :=
  match P.underlying t with
  | some (.struct fs) => match fs[f]? with
    | some fd => match P.info? fd.type with
      | some i => if i.size ≠ 0 then some (fd.offset, fd.type) else none
      | none => none
    | none => none
  | _ => none
def strOf (P : Program) (t : TypeId) : Bool :=
  match P.underlying t with
  | some .string => true
  | _ => false
def bolOf (P : Program) (t : TypeId) : Bool :=
  match P.underlying t with
  | some .bool => true
  | _ => false
def intOf (P : Program) (t : TypeId) : Option IntKind :=
  match P.underlying t with
  | some (.int k) => some k
  | _ => none
def bldOf (P : Program) (t : TypeId) : Bool :=
  match P.underlying t with
  | some (.struct fs) => (fs.toList.mapM (fun f => (P.info? f.type).map fun i => (f.offset, i.size))).isSome
  | _ => false
def kindOf (P : Program) (t : TypeId) : Option V :=
  match tiOf P t with
  | some ⟨1, false, _, _⟩ => match P.underlying t with
    | some (.int k) => some (.int k 0)
    | some .bool => some (.bool false)
    | some .string => some (.str ⟨#[]⟩)
    | _ => none
  | _ => none
def eqKs (P : Program) : Nat → List Field → Option (List V)
  | _, [] => some []
  | i, f :: fs => match decide (f.offset = i) && f.name != "_", kindOf P f.type, eqKs P (i + 1) fs with
    | true, some k, some ks => some (k :: ks)
    | _, _, _ => none
def eqsOf (P : Program) (t : TypeId) : Option (List V) :=
  match P.underlying t, P.stoodInHeld t, P.eqGuardType P.depth t with
  | some (.struct fs), false, false => eqKs P 0 fs.toList
  | _, _, _ => none
theorem sameK_flat2 {k x : V} (h : sameK k x = true) : flatL x = true := by
  cases x <;> cases k <;> first | rfl | simp [sameK] at h
theorem sameKs_flat2 : ∀ {ks xs : List V}, sameKs ks xs = true → xs.all flatL = true
  | [], [], _ => rfl
  | k :: ks, x :: xs, h => by
    simp only [sameKs, Bool.and_eq_true] at h
    simp only [List.all_cons, Bool.and_eq_true]
    exact ⟨sameK_flat2 h.1, sameKs_flat2 h.2⟩
  | [], _ :: _, h => by simp [sameKs] at h
  | _ :: _, [], h => by simp [sameKs] at h
def mem0 : Mem := ⟨fun _ => False, fun _ => none, fun _ => 0, fun _ => undef, fun _ _ _ => undef, 0, 0⟩
theorem part1 {P : Program} {t : TypeId} {i : TI} (hi : TiOK P t i) (ha : i.ag = false) {xs : List V} (hf : xs.all flatL = true) {o : Nat} {x : V} (hx : xs[o]? = some x) (w : World) : (part t (xs.map valL).toArray o).run P w = .ok (valL x) w := by
  obtain ⟨val, h1, h2⟩ := part_sound (M := mem0) (W := w) (P := P) (off := o) (r := x) hi (flatLs_SR hf) (by simp [getAt, ha, hx])
  rw [h1]
  have hfx : flatL x = true := List.all_eq_true.1 hf x (List.mem_of_getElem? hx)
  have h3 : SRL mem0 w x val := by cases x <;> first | exact h2 | simp [flatL] at hfx
  rw [flat_val hfx h3]
theorem equalIn_leaf {P : Program} {t : TypeId} {k x y : V} (hk : kindOf P t = some k) (hx : sameK k x = true) (hy : sameK k y = true) (d : Nat) (w : World) : (Op.equalIn (d + 1) t (valL x) (valL y)).run P w = .ok (eqL x y) w := by
  unfold kindOf at hk
  split at hk
  · split at hk
    · rename_i k' hu
      cases hk
      cases x <;> simp only [sameK, Bool.false_eq_true] at hx
      cases y <;> simp only [sameK, Bool.false_eq_true] at hy
      have e1 := beq_iff_eq.1 hx
      have e2 := beq_iff_eq.1 hy
      subst e1 e2
      exact run_equalIn_int w d t _ _ _ _ hu
    · rename_i hu
      cases hk
      cases x <;> simp only [sameK, Bool.false_eq_true] at hx
      cases y <;> simp only [sameK, Bool.false_eq_true] at hy
      exact run_equalIn_bool' w d t _ _ hu
    · rename_i hu
      cases hk
      cases x <;> simp only [sameK, Bool.false_eq_true] at hx
      cases y <;> simp only [sameK, Bool.false_eq_true] at hy
      simp only [valL, eqL]
      rw [run_equalIn_string w d t _ _ hu, ba_beq]
    · cases hk
  · cases hk
theorem kindOf_ti {P : Program} {t : TypeId} {k : V} (hk : kindOf P t = some k) : ∃ i, TiOK P t i ∧ i.ag = false := by
  unfold kindOf at hk
  split at hk
  · rename_i hi
    exact ⟨_, tiOf_ok hi, rfl⟩
  · cases hk
theorem eqFields_ok {P : Program} (d : Nat) : ∀ (fs : List Field) (i : Nat) (ks xs ys : List V), eqKs P i fs = some ks → xs.all flatL = true → ys.all flatL = true → sameKs ks (xs.drop i) = true → sameKs ks (ys.drop i) = true → ∀ w,
    (Op.eqFields (d + 1) (xs.map valL).toArray (ys.map valL).toArray fs).run P w = .ok (eqLs (xs.drop i) (ys.drop i)) w
  | [], i, ks, xs, ys, h, _, _, hx, hy, w => by
    simp only [eqKs, Option.some.injEq] at h
    subst h
    cases hd : xs.drop i with
    | nil => simp [Op.eqFields, eqLs]
    | cons x xs' => rw [hd] at hx; simp [sameKs] at hx
  | f :: fs, i, ks, xs, ys, h, fx, fy, hx, hy, w => by
    simp only [eqKs] at h
    split at h
    · rename_i k ks' h1 h2 h3
      cases h
      simp only [Bool.and_eq_true, decide_eq_true_eq, bne_iff_ne, ne_eq] at h1
      cases hdx : xs.drop i with
      | nil => rw [hdx] at hx; simp [sameKs] at hx
      | cons x xs' =>
        cases hdy : ys.drop i with
        | nil => rw [hdy] at hy; simp [sameKs] at hy
        | cons y ys' =>
          rw [hdx] at hx
          rw [hdy] at hy
          simp only [sameKs, Bool.and_eq_true] at hx hy
          have gx : xs[i]? = some x := by
            have := congrArg (fun l => l[0]?) hdx
            simpa using this
          have gy : ys[i]? = some y := by
            have := congrArg (fun l => l[0]?) hdy
            simpa using this
          have tx : xs.drop (i + 1) = xs' := by
            have := congrArg List.tail hdx
            simpa using this
          have ty : ys.drop (i + 1) = ys' := by
            have := congrArg List.tail hdy
            simpa using this
          obtain ⟨ti, hti, hag⟩ := kindOf_ti h2
          have ih := eqFields_ok d fs (i + 1) ks' xs ys h3 fx fy (by rw [tx]; exact hx.2) (by rw [ty]; exact hy.2) w
          simp only [Op.eqFields, ne_eq, h1.2, not_false_eq_true, if_true, h1.1, Sem.run_bind, part1 hti hag fx gx, part1 hti hag fy gy, Result.andThen_ok, equalIn_leaf h2 hx.1 hy.1]
          simp only [eqLs]
          cases eqL x y with
          | true => simp only [Bool.not_true, Bool.false_eq_true, if_false, Bool.true_and]; rw [ih, tx, ty]
          | false => simp
    · cases h
theorem eqsOf_ok {P : Program} {t : TypeId} {ks : List V} (h : eqsOf P t = some ks) : P.eqGuardType P.depth t = false ∧ ∀ xs ys, sameKs ks xs = true → sameKs ks ys = true → ∀ w, (Op.equal t (.agg (xs.map valL).toArray) (.agg (ys.map valL).toArray)).run P w = .ok (eqLs xs ys) w := by
  unfold eqsOf at h
  split at h
  · rename_i fs hu hs hg
    refine ⟨hg, fun xs ys hx hy w => ?_⟩
    have hfs : P.fieldsOf t = fs := by simp [Program.fieldsOf, hu]
    have hu' : P.underlying t = some (.struct (P.fieldsOf t)) := by rw [hfs]; exact hu
    have := run_equalIn_struct (P := P) w 9999 t (xs.map valL).toArray (ys.map valL).toArray hu' hs
    show (Op.equalIn 10000 t _ _).run P w = _
    rw [this, hfs]
    have h2 := eqFields_ok (P := P) 9998 fs.toList 0 ks xs ys h (sameKs_flat2 hx) (sameKs_flat2 hy) (by simpa using hx) (by simpa using hy) w
    simpa using h2
  · cases h
def ifcOf (P : Program) (t : TypeId) : Bool :=
  match P.underlying t with
  | some (.interface _) => true
  | _ => false
def envOf (P : Program) : Env where
  ti := tiOf P
  el := elOf P
  fld := fldOf P
  str := strOf P
  bol := bolOf P
  int := intOf P
  eqs := eqsOf P
  ifc := ifcOf P
  bld := bldOf P
  call := fun _ _ => none
  rw := fun _ => none
  gen := fun _ _ _ => none
  plan := fun _ => none
  pln := fun _ => none
theorem envOf_sta {P : Program} (h : P.follows .mixedOrders = true) : StaOK P (envOf P) where
  mixed := h
  ti _ _ h := tiOf_ok h
  el t e h := by
    simp only [envOf, elOf] at h
    split at h
    · cases h; assumption
    · cases h
  fld t f o u h := by
    simp only [envOf, fldOf] at h
    split at h
    · rename_i fs hu
      split at h
      · rename_i fd hfd
        split at h
        · rename_i i hi
          split at h
          · rename_i hs
            cases h
            exact ⟨fs, fd, i, hu, hfd, rfl, rfl, hi, hs⟩
          · cases h
        · cases h
      · cases h
    · cases h
  str t h := by
    simp only [envOf, strOf] at h
    split at h
    · assumption
    · cases h
  bol t h := by
    simp only [envOf, bolOf] at h
    split at h
    · assumption
    · cases h
  int t k h := by
    simp only [envOf, intOf] at h
    split at h
    · cases h; assumption
    · cases h
  bld t h := by
    simp only [envOf, bldOf] at h
    split at h
    · rename_i fs hu
      obtain ⟨pl, hp⟩ := Option.isSome_iff_exists.1 h
      exact ⟨fs, pl, hu, hp⟩
    · cases h
  ifc t h := by
    simp only [envOf, ifcOf] at h
    split at h
    · exact ⟨_, by assumption⟩
    · cases h
  eqs _ _ h := eqsOf_ok h
section
open Classical
noncomputable def ctr {α : Type} (p : α → Prop) (enc : α → List V) (out : α → Bool × V) : List V → Option (Bool × V) :=
  fun args => if h : ∃ a, p a ∧ enc a = args then some (out h.choose) else none
theorem ctr_eq {α : Type} {p : α → Prop} {enc : α → List V} {out : α → Bool × V} (hi : ∀ a b, enc a = enc b → out a = out b) {args : List V} (a : α) (hp : p a) (ha : enc a = args) : ctr p enc out args = some (out a) := by
  have h : ∃ a, p a ∧ enc a = args := ⟨a, hp, ha⟩
  unfold ctr
  rw [dif_pos h]
  congr 1
  exact hi _ _ (h.choose_spec.2.trans ha.symm)
def COK (P : Program) (c : Nat × (List V → Option (Bool × V))) : Prop := ∀ args sh r, c.2 args = some (sh, r) → FunOK P c.1 args sh r
theorem ctr_ok {α : Type} {p : α → Prop} {enc : α → List V} {out : α → Bool × V} {P : Program} {f : FuncId} (hf : ∀ a, p a → FunOK P f (enc a) (out a).1 (out a).2) : COK P (f, ctr p enc out) := by
  intro args sh r h
  simp only at h
  unfold ctr at h
  split at h
  · rename_i hh
    have h1 := hf hh.choose hh.choose_spec.1
    rw [hh.choose_spec.2] at h1
    have h2 := Option.some.inj h
    rw [h2] at h1
    exact h1
  · cases h
noncomputable def ctrG {α : Type} (p : α → Prop) (enc : α → List V × List V) (out : α → Ans) : List V → List V → Option Ans :=
  fun args cs => if h : ∃ a, p a ∧ enc a = (args, cs) then some (out h.choose) else none
theorem ctrG_eq {α : Type} {p : α → Prop} {enc : α → List V × List V} {out : α → Ans} (hi : ∀ a b, enc a = enc b → out a = out b) {args cs : List V} (a : α) (hp : p a) (ha : enc a = (args, cs)) : ctrG p enc out args cs = some (out a) := by
  have h : ∃ a, p a ∧ enc a = (args, cs) := ⟨a, hp, ha⟩
  unfold ctrG
  rw [dif_pos h]
  congr 1
  exact hi _ _ (h.choose_spec.2.trans ha.symm)
def GOK (P : Program) (c : Nat × List Bool × (List V → List V → Option Ans)) : Prop := ∀ args cs a, c.2.2 args cs = some a → GenOK P c.1 args cs a
theorem ctrG_ok {α : Type} {p : α → Prop} {enc : α → List V × List V} {out : α → Ans} {P : Program} {f : FuncId} {w : List Bool} (hf : ∀ a, p a → GenOK P f (enc a).1 (enc a).2 (out a)) : GOK P (f, w, ctrG p enc out) := by
  intro args cs ans h
  simp only at h
  unfold ctrG at h
  split at h
  · rename_i hh
    have h1 := hf hh.choose hh.choose_spec.1
    rw [hh.choose_spec.2] at h1
    have h2 := Option.some.inj h
    rw [h2] at h1
    exact h1
  · cases h
end
def callL : List (Nat × (List V → Option (Bool × V))) → Nat → List V → Option (Bool × V)
  | [], _, _ => none
  | (f, c) :: l, g, args => if g = f then c args else callL l g args
def rwL : List (Nat × List Bool × (List V → List V → Option Ans)) → Nat → Option (List Bool)
  | [], _ => none
  | (f, w, _) :: l, g => if g = f then some w else rwL l g
def genL : List (Nat × List Bool × (List V → List V → Option Ans)) → Nat → List V → List V → Option Ans
  | [], _, _, _ => none
  | (f, _, c) :: l, g, args, cs => if g = f then c args cs else genL l g args cs
def planL : List (Nat × List (Nat × Bool)) → Nat → Option (List (Nat × Bool))
  | [], _ => none
  | (i, p) :: l, j => if j = i then some p else planL l j
attribute [simp] callL rwL genL planL
def mkE (P : Program) (cl : List (Nat × (List V → Option (Bool × V)))) (gl : List (Nat × List Bool × (List V → List V → Option Ans))) (pl : List (Nat × List (Nat × Bool))) : Env :=
  { envOf P with call := callL cl, rw := rwL gl, gen := genL gl, plan := planL pl }
@[simp] theorem mkE_ti (P : Program) (cl gl pl) : (mkE P cl gl pl).ti = tiOf P := rfl
@[simp] theorem mkE_el (P : Program) (cl gl pl) : (mkE P cl gl pl).el = elOf P := rfl
@[simp] theorem mkE_fld (P : Program) (cl gl pl) : (mkE P cl gl pl).fld = fldOf P := rfl
@[simp] theorem mkE_str (P : Program) (cl gl pl) : (mkE P cl gl pl).str = strOf P := rfl
@[simp] theorem mkE_bol (P : Program) (cl gl pl) : (mkE P cl gl pl).bol = bolOf P := rfl
@[simp] theorem mkE_int (P : Program) (cl gl pl) : (mkE P cl gl pl).int = intOf P := rfl
@[simp] theorem mkE_bld (P : Program) (cl gl pl) : (mkE P cl gl pl).bld = bldOf P := rfl
@[simp] theorem mkE_eqs (P : Program) (cl gl pl) : (mkE P cl gl pl).eqs = eqsOf P := rfl
@[simp] theorem mkE_ifc (P : Program) (cl gl pl) : (mkE P cl gl pl).ifc = ifcOf P := rfl
@[simp] theorem mkE_call (P : Program) (cl gl pl) : (mkE P cl gl pl).call = callL cl := rfl
@[simp] theorem mkE_rw (P : Program) (cl gl pl) : (mkE P cl gl pl).rw = rwL gl := rfl
@[simp] theorem mkE_gen (P : Program) (cl gl pl) : (mkE P cl gl pl).gen = genL gl := rfl
@[simp] theorem mkE_pln (P : Program) (cl gl pl) : (mkE P cl gl pl).pln = fun _ => none := rfl
@[simp] theorem mkE_plan (P : Program) (cl gl pl) : (mkE P cl gl pl).plan = planL pl := rfl
def AllP {α : Type} (p : α → Prop) : List α → Prop
  | [] => True
  | [a] => p a
  | a :: l => p a ∧ AllP p l
theorem AllP.mem {α : Type} {p : α → Prop} : ∀ {l : List α}, AllP p l → ∀ a ∈ l, p a
  | [a], h, b, hb => by
    simp only [List.mem_singleton] at hb
    subst hb
    exact h
  | a :: a' :: l, h, b, hb => by
    rcases List.mem_cons.1 hb with rfl | hb
    · exact h.1
    · exact AllP.mem h.2 b hb
theorem mkE_ok {P : Program} (hm : P.follows .mixedOrders = true) {cl : List (Nat × (List V → Option (Bool × V)))} {gl : List (Nat × List Bool × (List V → List V → Option Ans))} (pl : List (Nat × List (Nat × Bool))) (h1 : AllP (COK P) cl) (h2 : AllP (GOK P) gl) : EnvOK P (mkE P cl gl pl) where
  toStaOK := by
    have h := envOf_sta hm
    exact ⟨h.mixed, h.ti, h.el, h.fld, h.str, h.bol, h.int, h.bld, h.ifc, h.eqs⟩
  call f args sh r h := by
    have key : ∀ l : List (Nat × (List V → Option (Bool × V))), (∀ c ∈ l, COK P c) → callL l f args = some (sh, r) → FunOK P f args sh r := by
      intro l
      induction l with
      | nil => intro _ h; cases h
      | cons c l ih =>
        intro hl h
        obtain ⟨g, c⟩ := c
        simp only [callL] at h
        split at h
        · rename_i e
          subst e
          exact hl (f, c) (by simp) args sh r h
        · exact ih (fun c hc => hl c (by simp [hc])) h
    exact key cl h1.mem h
  gen f args cs a h := by
    have key : ∀ l : List (Nat × List Bool × (List V → List V → Option Ans)), (∀ c ∈ l, GOK P c) → genL l f args cs = some a → GenOK P f args cs a := by
      intro l
      induction l with
      | nil => intro _ h; cases h
      | cons c l ih =>
        intro hl h
        obtain ⟨g, w, c⟩ := c
        simp only [genL] at h
        split at h
        · rename_i e
          subst e
          exact hl (f, w, c) (by simp) args cs a h
        · exact ih (fun c hc => hl c (by simp [hc])) h
    exact key gl h2.mem h
def plnL : List (Nat × Pl) → Nat → Option Pl
  | [], _ => none
  | (i, p) :: l, j => if j = i then some p else plnL l j
attribute [simp] plnL
def mkE2 (P : Program) (cl : List (Nat × (List V → Option (Bool × V)))) (gl : List (Nat × List Bool × (List V → List V → Option Ans))) (pl : List (Nat × List (Nat × Bool))) (cu : List (Nat × Pl)) : Env :=
  { mkE P cl gl pl with pln := plnL cu }
@[simp] theorem mkE2_ti (P : Program) (cl gl pl cu) : (mkE2 P cl gl pl cu).ti = tiOf P := rfl
@[simp] theorem mkE2_el (P : Program) (cl gl pl cu) : (mkE2 P cl gl pl cu).el = elOf P := rfl
@[simp] theorem mkE2_fld (P : Program) (cl gl pl cu) : (mkE2 P cl gl pl cu).fld = fldOf P := rfl
@[simp] theorem mkE2_str (P : Program) (cl gl pl cu) : (mkE2 P cl gl pl cu).str = strOf P := rfl
@[simp] theorem mkE2_bol (P : Program) (cl gl pl cu) : (mkE2 P cl gl pl cu).bol = bolOf P := rfl
@[simp] theorem mkE2_int (P : Program) (cl gl pl cu) : (mkE2 P cl gl pl cu).int = intOf P := rfl
@[simp] theorem mkE2_bld (P : Program) (cl gl pl cu) : (mkE2 P cl gl pl cu).bld = bldOf P := rfl
@[simp] theorem mkE2_eqs (P : Program) (cl gl pl cu) : (mkE2 P cl gl pl cu).eqs = eqsOf P := rfl
@[simp] theorem mkE2_ifc (P : Program) (cl gl pl cu) : (mkE2 P cl gl pl cu).ifc = ifcOf P := rfl
@[simp] theorem mkE2_call (P : Program) (cl gl pl cu) : (mkE2 P cl gl pl cu).call = callL cl := rfl
@[simp] theorem mkE2_rw (P : Program) (cl gl pl cu) : (mkE2 P cl gl pl cu).rw = rwL gl := rfl
@[simp] theorem mkE2_gen (P : Program) (cl gl pl cu) : (mkE2 P cl gl pl cu).gen = genL gl := rfl
@[simp] theorem mkE2_plan (P : Program) (cl gl pl cu) : (mkE2 P cl gl pl cu).plan = planL pl := rfl
@[simp] theorem mkE2_pln (P : Program) (cl gl pl cu) : (mkE2 P cl gl pl cu).pln = plnL cu := rfl
theorem mkE2_ok {P : Program} (hm : P.follows .mixedOrders = true) {cl : List (Nat × (List V → Option (Bool × V)))} {gl : List (Nat × List Bool × (List V → List V → Option Ans))} (pl : List (Nat × List (Nat × Bool))) (cu : List (Nat × Pl)) (h1 : AllP (COK P) cl) (h2 : AllP (GOK P) gl) : EnvOK P (mkE2 P cl gl pl cu) where
  toStaOK := by
    have h := envOf_sta hm
    exact ⟨h.mixed, h.ti, h.el, h.fld, h.str, h.bol, h.int, h.bld, h.ifc, h.eqs⟩
  call := (mkE_ok hm pl h1 h2).call
  gen := (mkE_ok hm pl h1 h2).gen
def funB (E : Env) (f : Func) (k : Nat) : Bool :=
  !(f.name == "runtime.NumGoroutine") && (match f.body with | some c => okC E f.ntmps c | none => false) && decide (k ≤ f.ntmps) && f.results.toList.all (okRes f.ntmps)
theorem fun_ok {P : Program} {E : Env} (env : EnvOK P E) {f : FuncId} {fn : Func} (hf : P.funcs[f]? = some fn) {args : List V} (hB : funB E fn args.length = true) {sh : Bool} {r : V} (h : FunW E fn args sh r) : FunOK P f args sh r := by
  simp only [funB, Bool.and_eq_true, decide_eq_true_eq, Bool.not_eq_true'] at hB
  obtain ⟨⟨⟨h1, h2⟩, h3⟩, h4⟩ := hB
  cases hb : fn.body with
  | none => rw [hb] at h2; cases h2
  | some c => rw [hb] at h2; exact fun_soundW env hf h1 hb h2 h3 h4 h
theorem fun_okG {P : Program} {E : Env} (env : EnvOK P E) {f : FuncId} {fn : Func} (hf : P.funcs[f]? = some fn) {args cs : List V} (hB : funB E fn args.length = true) {a : Ans} (h : FunG E fn args cs a) : GenOK P f args cs a := by
  simp only [funB, Bool.and_eq_true, decide_eq_true_eq, Bool.not_eq_true'] at hB
  obtain ⟨⟨⟨h1, h2⟩, h3⟩, h4⟩ := hB
  cases hb : fn.body with
  | none => rw [hb] at h2; cases h2
  | some c => rw [hb] at h2; exact fun_sound env hf h1 hb h2 h3 h4 h
end Go.TM
end
section
namespace Go.TM
open Go
theorem lp_list {α : Type} {E : Env} {c : Code} {k : List Fr} {Q : X → S → Prop} {s0 : S} (xs : List α) (I : Nat → S → Prop) (h0 : I 0 s0)
    (more : ∀ (c' : Code) (L : S → Prop), (∀ s, kont E (.lp c' :: k) Q .normal s = L s) → ∀ i s x, xs[i]? = some x → i < xs.length → (∀ s', I (i + 1) s' → L s') → I i s → kont E (.code c :: .lp c' :: k) Q .normal s)
    (done : ∀ (c' : Code) s, I xs.length s → kont E (.code c :: .lp c' :: k) Q .normal s) :
    kont E (.lp c :: k) Q .normal s0 := by
  refine lp_ind (fun m s => ∃ i, m = xs.length - i ∧ i ≤ xs.length ∧ I i s) xs.length ⟨0, by simp, by simp, h0⟩ ?_
  rintro c' L hL m s ih ⟨i, rfl, hi, h⟩
  by_cases hlt : i < xs.length
  · exact more c' L hL i s _ (List.getElem?_eq_getElem hlt) hlt (fun s' h' => ih (xs.length - (i + 1)) s' (by omega) ⟨i + 1, rfl, hlt, h'⟩) h
  · have : i = xs.length := by omega
    subst this
    exact done c' s h
@[simp] theorem mapE_e (s : S) (f : V → V) (x : Nat) : (s.mapE f).e x = onC f (s.e x) := rfl
@[simp] theorem mapE_R (s : S) (f : V → V) : (s.mapE f).R = s.R := rfl
@[simp] theorem mapE_B (s : S) (f : V → V) (b : Nat) : (s.mapE f).B b = (s.B b).map (onL1 f) := rfl
@[simp] theorem mapE_nt (s : S) (f : V → V) : (s.mapE f).nt = s.nt := rfl
@[simp] theorem mapE_nb (s : S) (f : V → V) : (s.mapE f).nb = s.nb := rfl
attribute [simp] killL killT bytesL byteL genR ansR argsG given kept givenL giveL S.back S.backs S.fills S.nest leafAt renL renP isPtrIn
@[simp] theorem put_mk_same (e : Nat → V) (B : Nat → Option V) (R : Nat → Option Rw) (nt nb d : Nat) (v : V) : ((S.mk e B R nt nb).put (some d) v).e d = v := by simp [S.put]
theorem norms_map (xs : List V) : norms xs = xs.map norm := by
  induction xs with
  | nil => simp
  | cons x xs ih => simp [ih]
theorem noLs_map {α : Type} (f : α → V) (h : ∀ a, noL (f a) = true) (xs : List α) : noLs (xs.map f) = true := by
  induction xs with
  | nil => simp
  | cons x xs ih => simp [ih, h]
theorem wrap64 {n : Int} (h0 : -9223372036854775808 ≤ n) (h1 : n ≤ 9223372036854775807) : IntKind.i64.wrap n = n := wrap_i64 n h0 h1
theorem wrI {i : Nat} (h : i < 9223372036854775807) : IntKind.i64.wrap ((i : Int) + 1) = ((i + 1 : Nat) : Int) := wrap64 (by omega) (by omega)
theorem gcz {α : Type} {a : α} {l : List α} : (a :: l)[0]? = some a := List.getElem?_cons_zero
theorem gcs {α : Type} {a : α} {l : List α} {i : Nat} : (a :: l)[i + 1]? = l[i]? := List.getElem?_cons_succ
def fill {α : Type} (f : α → V) (z : V) (xs : List α) (i : Nat) : List V := (xs.take i).map f ++ List.replicate (xs.length - i) z
section
variable {α : Type} {f : α → V} {z : V} {xs : List α} {i : Nat}
@[simp] theorem fill_length : (fill f z xs i).length = xs.length := by simp [fill]; omega
theorem fill_zero : fill f z xs 0 = List.replicate xs.length z := by simp [fill]
theorem fill_all : fill f z xs xs.length = xs.map f := by simp [fill]
theorem fill_get (h : i < xs.length) : (fill f z xs i)[i]? = some z := by
  simp only [fill]
  rw [List.getElem?_append_right (by simp; omega)]
  have e : i - ((xs.take i).map f).length = 0 := by simp; omega
  rw [e, List.getElem?_replicate, if_pos (by omega)]
theorem fill_set {x : α} (hx : xs[i]? = some x) {y : V} (hy : f x = y) : (fill f z xs i).set i y = fill f z xs (i + 1) := by
  have hi : i < xs.length := by
    rw [List.getElem?_eq_some_iff] at hx
    exact hx.1
  have e : xs.length - i = (xs.length - (i + 1)) + 1 := by omega
  simp only [fill]
  rw [List.set_append_right _ _ (by simp; omega), e, List.replicate_succ]
  have e2 : i - ((xs.take i).map f).length = 0 := by simp; omega
  rw [e2, List.set_cons_zero, List.take_add_one, hx]
  simp [hy]
end
@[simp] theorem norms_take (xs : List V) (i : Nat) : norms (List.take i xs) = List.take i (norms xs) := by rw [norms_map, norms_map, List.map_take]
@[simp] theorem norms_drop (xs : List V) (i : Nat) : norms (List.drop i xs) = List.drop i (norms xs) := by rw [norms_map, norms_map, List.map_drop]
theorem cut_ok {α : Type} {f : α → V} {n : Nat} (h : ∀ a, (leaves (f a)).length = n) (xs : List α) : (xs = [] ∨ (leaves ((Option.map f xs[0]?).getD .bad)).length = n) = True := by
  cases xs with
  | nil => simp
  | cons x xs => simp [h]
structure Fld where
  name : ByteArray
  mark : Int
  type : Int
structure Ty where
  kind : Int
  long : Int
  base : Int
  fields : List Fld
  owner : ByteArray
  name : ByteArray
structure Par where
  name : ByteArray
  byVar : Bool
  type : Int
structure Obj where
  name : ByteArray
  kind : Int
  mark : Int
  type : Int
  value : Int
  params : List Par
structure Use where
  mod : ByteArray
  name : ByteArray
structure Scp where
  name : ByteArray
  imports : List ByteArray
  types : List Ty
  objects : List Obj
  uses : List Use
@[simp] def Fld.v (x : Fld) : V := .agg [.str x.name, .int .i64 x.mark, .int .i64 x.type]
@[simp] def Ty.v (x : Ty) : V := .agg [.int .i64 x.kind, .int .i64 x.long, .int .i64 x.base, .lst (x.fields.map Fld.v), .str x.owner, .str x.name]
@[simp] def Par.v (x : Par) : V := .agg [.str x.name, .bool x.byVar, .int .i64 x.type]
@[simp] def Obj.v (x : Obj) : V := .agg [.str x.name, .int .i64 x.kind, .int .i64 x.mark, .int .i64 x.type, .int .i64 x.value, .lst (x.params.map Par.v)]
@[simp] def Use.v (x : Use) : V := .agg [.str x.mod, .str x.name]
@[simp] def Scp.v (x : Scp) : V := .agg [.str x.name, .lst (x.imports.map V.str), .lst (x.types.map Ty.v), .lst (x.objects.map Obj.v), .lst (x.uses.map Use.v)]
@[simp] def Ty.o (x : Ty) : V := .agg [.int .i64 x.kind, .int .i64 x.long, .int .i64 x.base, .inl 3 (x.fields.map Fld.v), .str x.owner, .str x.name]
@[simp] def Obj.o (x : Obj) : V := .agg [.str x.name, .int .i64 x.kind, .int .i64 x.mark, .int .i64 x.type, .int .i64 x.value, .inl 3 (x.params.map Par.v)]
@[simp] def Scp.o (x : Scp) : V := .agg [.str x.name, .inl 1 (x.imports.map V.str), .inl 6 (x.types.map Ty.o), .inl 6 (x.objects.map Obj.o), .inl 2 (x.uses.map Use.v)]
@[simp] theorem cut_str (xs : List ByteArray) : (xs = [] ∨ (leaves ((Option.map V.str xs[0]?).getD .bad)).length = 1) = True := cut_ok (f := V.str) (n := 1) (fun _ => rfl) xs
@[simp] theorem cut_fld (xs : List Fld) : (xs = [] ∨ (leaves ((Option.map Fld.v xs[0]?).getD .bad)).length = 3) = True := cut_ok (f := Fld.v) (n := 3) (fun _ => rfl) xs
@[simp] theorem cut_par (xs : List Par) : (xs = [] ∨ (leaves ((Option.map Par.v xs[0]?).getD .bad)).length = 3) = True := cut_ok (f := Par.v) (n := 3) (fun _ => rfl) xs
@[simp] theorem cut_use (xs : List Use) : (xs = [] ∨ (leaves ((Option.map Use.v xs[0]?).getD .bad)).length = 2) = True := cut_ok (f := Use.v) (n := 2) (fun _ => rfl) xs
@[simp] theorem cut_ty (xs : List Ty) : (xs = [] ∨ (leaves ((Option.map Ty.v xs[0]?).getD .bad)).length = 6) = True := cut_ok (f := Ty.v) (n := 6) (fun _ => rfl) xs
@[simp] theorem cut_obj (xs : List Obj) : (xs = [] ∨ (leaves ((Option.map Obj.v xs[0]?).getD .bad)).length = 6) = True := cut_ok (f := Obj.v) (n := 6) (fun _ => rfl) xs
@[simp] theorem norms_fld (xs : List Fld) : norms (xs.map Fld.v) = xs.map Fld.v := by rw [norms_map]; simp
@[simp] theorem norms_par (xs : List Par) : norms (xs.map Par.v) = xs.map Par.v := by rw [norms_map]; simp
@[simp] theorem norms_use (xs : List Use) : norms (xs.map Use.v) = xs.map Use.v := by rw [norms_map]; simp
@[simp] theorem norms_str (xs : List ByteArray) : norms (xs.map V.str) = xs.map V.str := by rw [norms_map]; simp
@[simp] theorem norms_ty (xs : List Ty) : norms (xs.map Ty.v) = xs.map Ty.v := by rw [norms_map]; simp
@[simp] theorem norms_obj (xs : List Obj) : norms (xs.map Obj.v) = xs.map Obj.v := by rw [norms_map]; simp
@[simp] theorem norms_tyo (xs : List Ty) : norms (xs.map Ty.o) = xs.map Ty.v := by rw [norms_map]; simp
@[simp] theorem norms_objo (xs : List Obj) : norms (xs.map Obj.o) = xs.map Obj.v := by rw [norms_map]; simp
@[simp] theorem noLs_fld (xs : List Fld) : noLs (xs.map Fld.v) = true := noLs_map _ (by simp) _
@[simp] theorem noLs_par (xs : List Par) : noLs (xs.map Par.v) = true := noLs_map _ (by simp) _
@[simp] theorem noLs_use (xs : List Use) : noLs (xs.map Use.v) = true := noLs_map _ (by simp) _
@[simp] theorem noLs_str (xs : List ByteArray) : noLs (xs.map V.str) = true := noLs_map _ (by simp) _
@[simp] theorem noLs_tyo (xs : List Ty) : noLs (xs.map Ty.o) = true := noLs_map _ (by simp) _
@[simp] theorem noLs_objo (xs : List Obj) : noLs (xs.map Obj.o) = true := noLs_map _ (by simp) _
end Go.TM
end
section
namespace Go.TM
open Go
theorem Fld.v_inj : Function.Injective Fld.v := by rintro ⟨⟩ ⟨⟩; simp
theorem Par.v_inj : Function.Injective Par.v := by rintro ⟨⟩ ⟨⟩; simp
theorem Use.v_inj : Function.Injective Use.v := by rintro ⟨⟩ ⟨⟩; simp
theorem str_inj : Function.Injective V.str := by intro a b; simp
theorem map_inj {α : Type} {f : α → V} (h : Function.Injective f) : Function.Injective (List.map f) := by
  intro xs
  induction xs with
  | nil => intro ys e; cases ys <;> first | rfl | simp at e
  | cons x xs ih =>
    intro ys e
    cases ys with
    | nil => simp at e
    | cons y ys =>
      simp only [List.map_cons, List.cons.injEq] at e
      rw [h e.1, ih e.2]
theorem Ty.v_inj : Function.Injective Ty.v := by
  rintro ⟨⟩ ⟨⟩
  simp only [Ty.v, V.agg.injEq, List.cons.injEq, V.int.injEq, V.lst.injEq, V.str.injEq, Ty.mk.injEq]
  intro h
  have := @map_inj _ _ Fld.v_inj
  simp_all [Function.Injective]
  exact this h.2.2.2.1
theorem Obj.v_inj : Function.Injective Obj.v := by
  rintro ⟨⟩ ⟨⟩
  simp only [Obj.v, V.agg.injEq, List.cons.injEq, V.int.injEq, V.lst.injEq, V.str.injEq, Obj.mk.injEq]
  intro h
  have := @map_inj _ _ Par.v_inj
  simp_all [Function.Injective]
  exact this h.2.2.2.2.2
theorem inj0 {α : Type} {f : α → V} (hf : Function.Injective f) {β : Type} (out : α → β) : ∀ a b : α, [f a] = [f b] → out a = out b := fun a b h => by
  simp only [List.cons.injEq, and_true] at h
  rw [hf h]
theorem inj1 {α : Type} {f : α → V} (hf : Function.Injective f) {β : Type} (out : α × Int → β) : ∀ a b : α × Int, [f a.1, .int .i64 a.2] = [f b.1, .int .i64 b.2] → out a = out b := by
  rintro ⟨a, i⟩ ⟨b, j⟩ h
  simp only [List.cons.injEq, and_true, V.int.injEq, true_and] at h
  rw [hf h.1, h.2]
theorem injl {α : Type} {f : α → V} (hf : Function.Injective f) {β : Type} (out : List α → β) : ∀ a b : List α, [V.lst (a.map f)] = [V.lst (b.map f)] → out a = out b := fun a b h => by
  simp only [List.cons.injEq, and_true, V.lst.injEq] at h
  rw [map_inj hf h]
theorem injl1 {α : Type} {f : α → V} (hf : Function.Injective f) {β : Type} (out : List α × Int → β) : ∀ a b : List α × Int, [V.lst (a.1.map f), .int .i64 a.2] = [V.lst (b.1.map f), .int .i64 b.2] → out a = out b := by
  rintro ⟨a, i⟩ ⟨b, j⟩ h
  simp only [List.cons.injEq, and_true, V.lst.injEq, V.int.injEq, true_and] at h
  rw [map_inj hf h.1, h.2]
theorem Scp.v_inj : Function.Injective Scp.v := by
  rintro ⟨⟩ ⟨⟩ h
  simp only [Scp.v, V.agg.injEq, List.cons.injEq, V.lst.injEq, V.str.injEq, and_true] at h
  rw [Scp.mk.injEq]
  exact ⟨h.1, map_inj str_inj h.2.1, map_inj Ty.v_inj h.2.2.1, map_inj Obj.v_inj h.2.2.2.1, map_inj Use.v_inj h.2.2.2.2⟩
def szL {α : Type} (f : α → Nat) (xs : List α) : Nat := xs.length + (xs.map f).sum
theorem sum_mem {α : Type} {f : α → Nat} {xs : List α} {x : α} (h : x ∈ xs) : f x ≤ (xs.map f).sum := by
  induction xs with
  | nil => cases h
  | cons y ys ih =>
    simp only [List.map_cons, List.sum_cons]
    rcases List.mem_cons.1 h with rfl | h
    · omega
    · have := ih h; omega
theorem szL_len {α : Type} (f : α → Nat) (xs : List α) : xs.length ≤ szL f xs := Nat.le_add_right _ _
theorem szL_mem {α : Type} {f : α → Nat} {xs : List α} {x : α} (h : x ∈ xs) : f x ≤ szL f xs := Nat.le_trans (sum_mem h) (Nat.le_add_left _ _)
theorem szL_get {α : Type} {f : α → Nat} {xs : List α} {i : Nat} {x : α} (h : xs[i]? = some x) : f x ≤ szL f xs := szL_mem (List.mem_of_getElem? h)
def pre {α : Type} (f : α → Nat) (xs : List α) (i : Nat) : Nat := ((xs.take i).map f).sum
theorem pre_zero {α : Type} (f : α → Nat) (xs : List α) : pre f xs 0 = 0 := by simp [pre]
theorem pre_all {α : Type} (f : α → Nat) (xs : List α) : pre f xs xs.length = (xs.map f).sum := by simp [pre]
theorem pre_succ {α : Type} (f : α → Nat) {xs : List α} {i : Nat} {x : α} (h : xs[i]? = some x) : pre f xs (i + 1) = pre f xs i + f x := by
  simp [pre, List.take_add_one, h]
theorem pre_le {α : Type} (f : α → Nat) (xs : List α) (i : Nat) : pre f xs i ≤ (xs.map f).sum := by
  unfold pre
  induction xs generalizing i with
  | nil => simp
  | cons x xs ih =>
    cases i with
    | zero => simp
    | succ i => simp only [List.take_succ_cons, List.map_cons, List.sum_cons]; have := ih i; omega
def szR (n : Nat) (left : Int) : Int := if left < n then -1 else left - n
theorem szR_lt {n : Nat} {left : Int} (h : left < n) : szR n left = -1 := if_pos h
theorem szR_ge {n : Nat} {left : Int} (h : (n : Int) ≤ left) : szR n left = left - n := if_neg (by omega)
def Fld.sz (x : Fld) : Nat := x.name.size
def Ty.sz (x : Ty) : Nat := szL Fld.sz x.fields + x.owner.size + x.name.size
def Par.sz (x : Par) : Nat := x.name.size
def Obj.sz (x : Obj) : Nat := x.name.size + szL Par.sz x.params
def Use.sz (x : Use) : Nat := x.mod.size + x.name.size
def Scp.sz (x : Scp) : Nat := x.name.size + szL ByteArray.size x.imports + szL Ty.sz x.types + szL Obj.sz x.objects + szL Use.sz x.uses
def lim : Nat := 9223372036854775807
def Fld.lim (x : Fld) : Prop := x.name.size ≤ TM.lim
def limL {α : Type} (p : α → Prop) (xs : List α) : Prop := xs.length ≤ TM.lim ∧ ∀ x ∈ xs, p x
def Ty.lim (x : Ty) : Prop := limL Fld.lim x.fields ∧ x.owner.size ≤ TM.lim ∧ x.name.size ≤ TM.lim
def Par.lim (x : Par) : Prop := x.name.size ≤ TM.lim
def Obj.lim (x : Obj) : Prop := x.name.size ≤ TM.lim ∧ limL Par.lim x.params
def Use.lim (x : Use) : Prop := x.mod.size ≤ TM.lim ∧ x.name.size ≤ TM.lim
def strLim (x : ByteArray) : Prop := x.size ≤ TM.lim
def Scp.lim (x : Scp) : Prop := x.name.size ≤ TM.lim ∧ limL strLim x.imports ∧ limL Ty.lim x.types ∧ limL Obj.lim x.objects ∧ limL Use.lim x.uses
theorem ba_nil_append (b : ByteArray) : (⟨#[]⟩ : ByteArray) ++ b = b := ByteArray.empty_append
theorem ba_append_nil (b : ByteArray) : b ++ (⟨#[]⟩ : ByteArray) = b := ByteArray.append_empty
theorem ba_nil_size : (⟨#[]⟩ : ByteArray).size = 0 := rfl
theorem ba_one_size (b : UInt8) : (⟨#[b]⟩ : ByteArray).size = 1 := rfl
def mdig (n : Nat) : ByteArray := if h : n = 0 then ⟨#[]⟩ else mdig (n / 10) ++ ⟨#[UInt8.ofNat (IntKind.u8.wrap (IntKind.i64.wrap (48 + (n : Int).tmod 10))).toNat]⟩
  termination_by n
  decreasing_by omega
theorem mdig_succ {n : Nat} (h : n ≠ 0) : mdig n = mdig (n / 10) ++ ⟨#[UInt8.ofNat (IntKind.u8.wrap (IntKind.i64.wrap (48 + (n : Int).tmod 10))).toNat]⟩ := by
  rw [mdig]
  simp [h]
theorem mdig_zero : mdig 0 = ⟨#[]⟩ := by
  rw [mdig]
  simp
def mtext (k : Int) : ByteArray := if k ≤ 0 then ⟨#[109, 48]⟩ else ⟨#[109]⟩ ++ mdig k.toNat
def mkL {α : Type} (f : Int → α → α) (c : α → Nat) : Int → List α → List α
  | _, [] => []
  | k, x :: xs => f k x :: mkL f c (k + c x) xs
@[simp] theorem mkL_length {α : Type} (f : Int → α → α) (c : α → Nat) : ∀ (k : Int) (xs : List α), (mkL f c k xs).length = xs.length
  | _, [] => rfl
  | k, x :: xs => by simp [mkL, mkL_length]
theorem mkL_get {α : Type} (f : Int → α → α) (c : α → Nat) : ∀ (k : Int) {xs : List α} {i : Nat} {x : α}, xs[i]? = some x → (mkL f c k xs)[i]? = some (f (k + pre c xs i) x)
  | k, y :: xs, 0, x, h => by
    simp at h
    subst h
    simp [mkL, pre]
  | k, y :: xs, i + 1, x, h => by
    simp only [List.getElem?_cons_succ] at h
    simp only [mkL, List.getElem?_cons_succ]
    rw [mkL_get f c (k + c y) h]
    congr 2
    simp [pre]
    omega
  | k, [], i, x, h => by simp at h
def mpart {α : Type} (f : Int → α → α) (c : α → Nat) (k : Int) (xs : List α) (i : Nat) : List α := (mkL f c k xs).take i ++ xs.drop i
section
variable {α : Type} {f : Int → α → α} {c : α → Nat} {k : Int} {xs : List α} {i : Nat} {x : α}
@[simp] theorem mpart_length : (mpart f c k xs i).length = xs.length := by simp [mpart]; omega
theorem mpart_zero : mpart f c k xs 0 = xs := by simp [mpart]
theorem mpart_all : mpart f c k xs xs.length = mkL f c k xs := by
  simp only [mpart, List.drop_length, List.append_nil]
  rw [List.take_of_length_le (by simp)]
theorem mpart_get (h : xs[i]? = some x) : (mpart f c k xs i)[i]? = some x := by
  have hi : i < xs.length := by
    rw [List.getElem?_eq_some_iff] at h
    exact h.1
  simp only [mpart]
  rw [List.getElem?_append_right (by simp; omega)]
  have e : i - ((mkL f c k xs).take i).length = 0 := by simp; omega
  rw [e, List.getElem?_drop, Nat.add_zero, h]
theorem mpart_set (h : xs[i]? = some x) : (mpart f c k xs i).set i (f (k + pre c xs i) x) = mpart f c k xs (i + 1) := by
  have hi : i < xs.length := by
    rw [List.getElem?_eq_some_iff] at h
    exact h.1
  simp only [mpart]
  have e : i - ((mkL f c k xs).take i).length = 0 := by simp; omega
  rw [List.set_append_right _ _ (by simp; omega), e]
  rw [List.take_add_one, mkL_get f c k h]
  have e2 : xs.drop i = x :: xs.drop (i + 1) := by
    rw [List.getElem?_eq_some_iff] at h
    rw [← h.2]
    exact List.drop_eq_getElem_cons hi
  rw [e2]
  simp
theorem mpart_setv {e : α → V} {y : V} (h : xs[i]? = some x) (hy : e (f (k + pre c xs i) x) = y) : ((mpart f c k xs i).map e).set i y = (mpart f c k xs (i + 1)).map e := by
  rw [← mpart_set h, List.map_set, hy]
end
def cnt {α : Type} (c : α → Nat) (xs : List α) : Nat := (xs.map c).sum
theorem injG {α : Type} {f : α → V} (hf : Function.Injective f) {z : Nat} {β : Type} (out : List α × Int → β) : ∀ a b : List α × Int, (([V.inl z (a.1.map f), .int .i64 a.2], []) : List V × List V) = ([V.inl z (b.1.map f), .int .i64 b.2], []) → out a = out b := by
  rintro ⟨a, i⟩ ⟨b, j⟩ h
  simp only [Prod.mk.injEq, List.cons.injEq, and_true, V.inl.injEq, V.int.injEq, true_and] at h
  rw [map_inj hf h.1, h.2]
theorem cnt_const {α : Type} {c : α → Nat} {m : Nat} (h : ∀ x, c x = m) (xs : List α) : cnt c xs = m * xs.length := by
  induction xs with
  | nil => simp [cnt]
  | cons x xs ih =>
    have e : cnt c (x :: xs) = c x + cnt c xs := by simp [cnt]
    rw [e, ih, h x, List.length_cons, Nat.mul_add]
    omega
end Go.TM
end
section
namespace Go.TM
open Go
section
variable {H : Type} {enc : TypeId × Value → H} {P : Program} {W : World}
abbrev Old (W : World) : Nat → Prop := fun b => b < W.heap.size
def Rd (P : Program) (W : World) (enc : TypeId × Value → H) (t : TypeId) {α : Type} (f : α → V) (p : α → Prop) : Prop :=
  ∀ (fuel : Nat) (cs : List Value) (x : DataW H × List MemPlace), DataW.trod enc P W 0 (fun _ => true) true fuel t cs = some x →
    ∃ a, p a ∧ All2 (fun l u => FR W (Old W) (vw l) u) (leaves (f a)) cs
theorem rd_str {t : TypeId} (ht : P.underlying t = some .string) : Rd P W enc t V.str strLim := fun fuel cs x h => by
  obtain ⟨s, rfl, _, hs⟩ := DataW.trod_string ht h
  exact ⟨s, hs, .str s, trivial⟩
theorem list_of {α : Type} {Q : Nat → α → Prop} : ∀ (n : Nat), (∀ i, i < n → ∃ a, Q i a) → ∃ xs : List α, xs.length = n ∧ ∀ i a, xs[i]? = some a → Q i a
  | 0, _ => ⟨[], rfl, fun i a h => by simp at h⟩
  | n + 1, h => by
    obtain ⟨xs, hl, hx⟩ := list_of n fun i hi => h i (by omega)
    obtain ⟨a, ha⟩ := h n (by omega)
    refine ⟨xs ++ [a], by simp [hl], fun i b hb => ?_⟩
    by_cases hi : i < n
    · rw [List.getElem?_append_left (by omega)] at hb
      exact hx i b hb
    · rw [List.getElem?_append_right (by omega), hl] at hb
      by_cases e : i = n
      · subst e
        simp at hb
        subst hb
        exact ha
      · rw [List.getElem?_eq_none (by simp; omega)] at hb
        cases hb
theorem cells_spec {a : Addr} {n : Nat} {cs : List Value} (h : W.cells? 0 a n = some cs) : cs.length = n ∧ ∀ i, i < n → W.cell? (a.add i) = cs[i]? := by
  unfold World.cells? at h
  rw [if_pos (Nat.zero_le _)] at h
  exact ⟨by simpa using mapM_some_length h, fun i hi => mapM_some_get h i i (by simp [hi])⟩
theorem cell_spot {a : Addr} {u : Value} (h : W.cell? a = some u) : a.spot = none ∧ a.block < W.heap.size := by
  unfold World.cell? at h
  split at h
  · rename_i hb
    split at h
    · cases h
    · rename_i hs
      refine ⟨by simpa using hs, ?_⟩
      rw [Array.getElem?_eq_some_iff] at hb
      exact hb.1
  · cases h
theorem rd_slice {α : Type} {f : α → V} {p : α → Prop} {t e : TypeId} {n : Nat} (ht : P.underlying t = some (.slice e)) (hc : P.cellsOf e = n) (hn : 0 < n) (hlv : ∀ a, (leaves (f a)).length = n) (hrd : Rd P W enc e f p) :
    Rd P W enc t (fun xs : List α => V.lst (xs.map f)) (limL p) := fun fuel cs x h => by
  rcases DataW.trod_slice ht h with ⟨rfl, _⟩ | ⟨a, len, cap, elems, rest, m, _, rfl, _, _, hlc, hcm, hel, hcells, _, _⟩
  · exact ⟨[], ⟨Nat.zero_le _, fun _ h => by cases h⟩, .nil _ _, trivial⟩
  · rw [hc] at hcells
    have key : ∀ i, i < len → ∃ b : α, p b ∧ ∃ cs' : List Value, W.cells? 0 (a.add (i * n)) n = some cs' ∧ All2 (fun l u => FR W (Old W) (vw l) u) (leaves (f b)) cs' := fun i hi => by
      have h1 := hcells i hi
      rw [List.getElem?_eq_getElem (by omega)] at h1
      obtain ⟨cs', h2, h3⟩ := Option.bind_eq_some_iff.1 h1
      obtain ⟨b, hb, hr⟩ := hrd _ _ _ h3
      exact ⟨b, hb, cs', h2, hr⟩
    obtain ⟨xs, hxl, hxs⟩ := list_of len key
    have hpx : ∀ b ∈ xs, p b := fun b hb => by
      obtain ⟨i, hi, rfl⟩ := List.mem_iff_getElem.1 hb
      exact (hxs i _ (List.getElem?_eq_getElem hi)).1
    refine ⟨xs, ⟨by rw [hxl]; simp only [maxLen] at hcm; simp only [lim]; omega, hpx⟩, ?_, trivial⟩
    show FR W (Old W) (.lst (xs.map f)) _
    by_cases h0 : len = 0
    · have : xs = [] := List.length_eq_zero_iff.1 (by omega)
      subst this
      subst h0
      exact .nil _ _
    · have hsp : a.spot = none ∧ a.block < W.heap.size := by
        obtain ⟨cs', h2, _⟩ := (hxs 0 _ (List.getElem?_eq_getElem (by omega))).2
        obtain ⟨h3, h4⟩ := cells_spec h2
        have h5 := h4 0 hn
        rw [List.getElem?_eq_getElem (by omega)] at h5
        have := cell_spot h5
        simpa [Addr.add] using this
      obtain ⟨b, o, sp⟩ := a
      simp only at hsp
      obtain ⟨rfl, hlt⟩ := hsp
      have hadd : ∀ j i, ((⟨b, o, none⟩ : Addr).add (j * n)).add i = ⟨b, o + j * n + i, none⟩ := fun j i => by
        unfold Addr.add
        split <;> split <;> simp_all
      have hleaf : ∀ j i l, leafAt (xs.map f) j i = some l → ∃ u, W.cell? ⟨b, o + j * n + i, none⟩ = some u ∧ FR W (Old W) (vw l) u := fun j i l hl => by
        unfold leafAt at hl
        rw [List.getElem?_map] at hl
        cases hj : xs[j]? with
        | none => rw [hj] at hl; cases hl
        | some y =>
          rw [hj] at hl
          simp only [Option.map_some, Option.bind_some] at hl
          obtain ⟨_, cs', h2, h3⟩ := hxs j y hj
          obtain ⟨u, hu, hr⟩ := h3.get i l hl
          obtain ⟨h4, h5⟩ := cells_spec h2
          have hi : i < n := by
            have := (List.getElem?_eq_some_iff.1 hu).1
            omega
          refine ⟨u, ?_, hr⟩
          rw [← hadd, h5 i hi, hu]
      have hfin := FR.lst (W := W) (F := Old W) (xs.map f) b o cap n (fun j i => (W.cell? ⟨b, o + j * n + i, none⟩).getD undef) hlt (by simp; omega) (by simp only [List.length_map]; omega)
        (fun e he => by
          obtain ⟨y, _, rfl⟩ := List.mem_map.1 he
          exact hlv y)
        (fun j i l hl => by
          obtain ⟨u, h1, _⟩ := hleaf j i l hl
          rw [h1]
          rfl)
        (fun j i l hl => by
          obtain ⟨u, h1, h2⟩ := hleaf j i l hl
          rw [h1]
          exact h2)
      rw [List.length_map, hxl] at hfin
      exact hfin
def oneB (P : Program) (t : TypeId) (fs : Array Go.Field) : Bool := decide (P.cellsOf t = fs.size) && fs.toList.zipIdx.all fun y => decide (y.1.offset = y.2) && decide (P.cellsOf y.1.type = 1)
theorem rd_cells {t : TypeId} {fs : Array Go.Field} (ht : P.underlying t = some (.struct fs)) (hB : oneB P t fs = true) {fuel : Nat} {cs : List Value} {x : DataW H × List MemPlace} (h : DataW.trod enc P W 0 (fun _ => true) true fuel t cs = some x) :
    cs.length = fs.size ∧ ∃ n, ∀ (i : Nat) (f : Go.Field), fs[i]? = some f → ∃ c y, cs[i]? = some c ∧ DataW.trod enc P W 0 (fun _ => true) true n f.type [c] = some y := by
  obtain ⟨xs, n, _, _, hl, hxl, hf⟩ := DataW.trod_struct ht h
  simp only [oneB, Bool.and_eq_true, decide_eq_true_eq, List.all_eq_true] at hB
  refine ⟨by rw [hl, hB.1], n, fun i f hfi => ?_⟩
  have h1 := hf i f hfi
  have hi : i < fs.size := by
    rw [Array.getElem?_eq_some_iff] at hfi
    exact hfi.1
  have h2 := hB.2 (f, i) (by
    rw [List.mem_zipIdx_iff_getElem?]
    simpa using hfi)
  simp only at h2
  have hic : i < cs.length := by rw [hl, hB.1]; exact hi
  rw [h2.1, h2.2, List.getElem?_eq_getElem (by omega)] at h1
  refine ⟨cs[i], xs[i], List.getElem?_eq_getElem hic, ?_⟩
  have e : (cs.drop i).take 1 = [cs[i]] := by
    rw [List.drop_eq_getElem_cons hic]
    rfl
  rw [e] at h1
  exact h1
end
end Go.TM
end
section
namespace Go.TM
open Go
instance : DecidableEq Use := fun x y => decidable_of_iff (x.mod = y.mod ∧ x.name = y.name) (by cases x; cases y; simp)
instance : DecidableEq Par := fun x y => decidable_of_iff (x.name = y.name ∧ x.byVar = y.byVar ∧ x.type = y.type) (by cases x; cases y; simp)
instance : DecidableEq Fld := fun x y => decidable_of_iff (x.name = y.name ∧ x.mark = y.mark ∧ x.type = y.type) (by cases x; cases y; simp)
instance : DecidableEq Ty := fun x y => decidable_of_iff (x.kind = y.kind ∧ x.long = y.long ∧ x.base = y.base ∧ x.fields = y.fields ∧ x.owner = y.owner ∧ x.name = y.name) (by cases x; cases y; simp)
instance : DecidableEq Obj := fun x y => decidable_of_iff (x.name = y.name ∧ x.kind = y.kind ∧ x.mark = y.mark ∧ x.type = y.type ∧ x.value = y.value ∧ x.params = y.params) (by cases x; cases y; simp)
instance : DecidableEq Scp := fun x y => decidable_of_iff (x.name = y.name ∧ x.imports = y.imports ∧ x.types = y.types ∧ x.objects = y.objects ∧ x.uses = y.uses) (by cases x; cases y; simp)
end Go.TM
end
section
namespace Go.TM
open Go
def allI {α : Type} (p : Nat → α → Bool) (xs : List α) (i : Nat) : Bool := (xs.take i).zipIdx.all fun y => p y.2 y.1
section
variable {α : Type} {p : Nat → α → Bool} {xs : List α} {i : Nat} {x : α}
@[simp] theorem allI_zero : allI p xs 0 = true := by simp [allI]
theorem allI_succ (hx : xs[i]? = some x) : allI p xs (i + 1) = (allI p xs i && p i x) := by
  have hi : i < xs.length := by
    rw [List.getElem?_eq_some_iff] at hx
    exact hx.1
  simp only [allI, List.take_add_one, hx, Option.toList_some, List.zipIdx_append, List.all_append]
  simp [Nat.min_eq_left (Nat.le_of_lt hi)]
theorem allI_no (hx : xs[i]? = some x) (hp : p i x = false) : allI p xs xs.length = false := by
  have hi : i < xs.length := by
    rw [List.getElem?_eq_some_iff] at hx
    exact hx.1
  rw [List.getElem?_eq_some_iff] at hx
  simp only [allI, List.take_length, List.all_eq_false]
  refine ⟨(x, i), ?_, by simp [hp]⟩
  rw [List.mem_zipIdx_iff_getElem?]
  simp [hx.2, hi]
end
def anyI {α : Type} (p : α → Bool) (xs : List α) (i : Nat) : Bool := (xs.take i).any p
section
variable {α : Type} {p : α → Bool} {xs : List α} {i : Nat} {x : α}
@[simp] theorem anyI_zero : anyI p xs 0 = false := by simp [anyI]
theorem anyI_succ (hx : xs[i]? = some x) : anyI p xs (i + 1) = (anyI p xs i || p x) := by
  simp [anyI, List.take_add_one, hx]
theorem anyI_all : anyI p xs xs.length = xs.any p := by simp [anyI]
theorem any_yes (hx : xs[i]? = some x) (hp : p x = true) : xs.any p = true := List.any_eq_true.2 ⟨x, List.mem_of_getElem? hx, hp⟩
end
def fstI {α : Type} (p : α → Bool) (xs : List α) : Int := if xs.any p = true then (xs.findIdx p : Nat) else -1
theorem fst_yes {α : Type} {p : α → Bool} {xs : List α} {i : Nat} {x : α} (hx : xs[i]? = some x) (hp : p x = true) (hn : anyI p xs i = false) : fstI p xs = i := by
  rw [fstI, if_pos (any_yes hx hp)]
  congr 1
  have hi : i < xs.length := by
    rw [List.getElem?_eq_some_iff] at hx
    exact hx.1
  rw [List.findIdx_eq hi]
  rw [List.getElem?_eq_some_iff] at hx
  refine ⟨by rw [hx.2]; exact hp, fun j hj => ?_⟩
  simp only [anyI, List.any_eq_false] at hn
  have := hn xs[j] (by rw [List.mem_take_iff_getElem]; exact ⟨j, by omega, rfl⟩)
  simpa using this
theorem fst_no {α : Type} {p : α → Bool} {xs : List α} (hn : anyI p xs xs.length = false) : fstI p xs = -1 := by
  rw [anyI_all] at hn
  simp [fstI, hn]
theorem fst_ge {α : Type} (p : α → Bool) (xs : List α) : decide (0 ≤ fstI p xs) = xs.any p := by
  unfold fstI
  cases h : xs.any p <;> simp
def letterB (n : Int) : Bool := (decide (65 ≤ n) && decide (n ≤ 90)) || (decide (97 ≤ n) && decide (n ≤ 122))
def digitB (n : Int) : Bool := decide (48 ≤ n) && decide (n ≤ 57)
def inB (n lo hi : Int) : Bool := decide (lo ≤ n) && decide (n ≤ hi)
def okB (i : Nat) (b : UInt8) : Bool := letterB b.toNat || (!decide (i = 0) && digitB b.toNat)
def nameB (s : ByteArray) : Bool := allI okB s.data.toList s.size && inB s.size 1 10
theorem ba_len (s : ByteArray) : s.size = s.data.toList.length := by
  rw [Array.length_toList]
  rfl
def hasB (l : List ByteArray) (s : ByteArray) : Bool := l.any fun x => decide (x = s)
theorem okB_no {i : Nat} {x : UInt8} : okB i x = false ↔ (letterB (x.toNat : Int) = false ∧ (i = 0 ∨ digitB (x.toNat : Int) = false)) := by
  unfold okB
  cases letterB (x.toNat : Int) <;> cases digitB (x.toNat : Int) <;> simp
theorem okB_no2 {i : Nat} {x : UInt8} : okB i x = false ↔ (((x.toNat : Int) < 65 ∨ 90 < (x.toNat : Int)) ∧ ((x.toNat : Int) < 97 ∨ 122 < (x.toNat : Int))) ∧ ((i = 0 ∨ (x.toNat : Int) < 48) ∨ 57 < (x.toNat : Int)) := by
  rw [okB_no]
  simp only [letterB, digitB, Bool.or_eq_false_iff, Bool.and_eq_false_iff, decide_eq_false_iff_not]
  omega
theorem injLS {α : Type} {f : α → V} (hf : Function.Injective f) {β : Type} (out : List α × ByteArray → β) : ∀ a b : List α × ByteArray, [V.lst (a.1.map f), .str a.2] = [V.lst (b.1.map f), .str b.2] → out a = out b := by
  rintro ⟨a, i⟩ ⟨b, j⟩ h
  simp only [List.cons.injEq, and_true, V.lst.injEq, V.str.injEq] at h
  rw [map_inj hf h.1, h.2]
end Go.TM
end
section
namespace Go.TM
open Go
structure Tok where
  kind : Int
  text : ByteArray
  value : Int
  at_ : Int
@[simp] def Tok.v (x : Tok) : V := .agg [.int .i64 x.kind, .str x.text, .int .i64 x.value, .int .i64 x.at_]
@[simp] theorem cut_tok (xs : List Tok) : (xs = [] ∨ (leaves ((Option.map Tok.v xs[0]?).getD .bad)).length = 4) = True := cut_ok (f := Tok.v) (n := 4) (fun _ => rfl) xs
@[simp] theorem norms_tok (xs : List Tok) : norms (xs.map Tok.v) = xs.map Tok.v := by rw [norms_map]; simp
@[simp] theorem noLs_tok (xs : List Tok) : noLs (xs.map Tok.v) = true := noLs_map _ (by simp) _
theorem Tok.v_inj : Function.Injective Tok.v := by rintro ⟨⟩ ⟨⟩; simp
def Tok.sz (x : Tok) : Nat := x.text.size
def Tok.lim (x : Tok) : Prop := x.text.size ≤ TM.lim
def Tok.zero : Tok := ⟨0, ⟨#[]⟩, 0, 0⟩
structure Stp where
  kind : Int
  value : Int
  mod : ByteArray
  name : ByteArray
@[simp] def Stp.v (x : Stp) : V := .agg [.int .i64 x.kind, .int .i64 x.value, .str x.mod, .str x.name]
@[simp] theorem cut_stp (xs : List Stp) : (xs = [] ∨ (leaves ((Option.map Stp.v xs[0]?).getD .bad)).length = 4) = True := cut_ok (f := Stp.v) (n := 4) (fun _ => rfl) xs
@[simp] theorem norms_stp (xs : List Stp) : norms (xs.map Stp.v) = xs.map Stp.v := by rw [norms_map]; simp
@[simp] theorem noLs_stp (xs : List Stp) : noLs (xs.map Stp.v) = true := noLs_map _ (by simp) _
theorem Stp.v_inj : Function.Injective Stp.v := by rintro ⟨⟩ ⟨⟩; simp
def Stp.sz (x : Stp) : Nat := x.mod.size + x.name.size
def Stp.lim (x : Stp) : Prop := x.mod.size ≤ TM.lim ∧ x.name.size ≤ TM.lim
structure Src where
  name : ByteArray
  text : ByteArray
@[simp] def Src.v (x : Src) : V := .agg [.str x.name, .str x.text]
@[simp] theorem cut_src (xs : List Src) : (xs = [] ∨ (leaves ((Option.map Src.v xs[0]?).getD .bad)).length = 2) = True := cut_ok (f := Src.v) (n := 2) (fun _ => rfl) xs
@[simp] theorem norms_src (xs : List Src) : norms (xs.map Src.v) = xs.map Src.v := by rw [norms_map]; simp
@[simp] theorem noLs_src (xs : List Src) : noLs (xs.map Src.v) = true := noLs_map _ (by simp) _
theorem Src.v_inj : Function.Injective Src.v := by rintro ⟨⟩ ⟨⟩; simp
def Src.sz (x : Src) : Nat := x.name.size + x.text.size
def Src.lim (x : Src) : Prop := x.name.size ≤ TM.lim ∧ x.text.size ≤ TM.lim
def mkSrc (k : Int) (_ : Src) : Src := ⟨mtext k, mtext (k + 1)⟩
def cSrc (_ : Src) : Nat := 2
structure RS where
  at_ : Nat
  wr : Nat
def tPlus : ByteArray := ⟨#[43]⟩
def tMinus : ByteArray := ⟨#[45]⟩
def tStar : ByteArray := ⟨#[42]⟩
def tDot : ByteArray := ⟨#[46]⟩
def tOpen : ByteArray := ⟨#[40]⟩
def tShut : ByteArray := ⟨#[41]⟩
def tDiv : ByteArray := ⟨#[68, 73, 86]⟩
def tMod : ByteArray := ⟨#[77, 79, 68]⟩
def seesB (l : List Tok) (s : RS) (k : Int) (ts : List ByteArray) : Bool :=
  decide (s.wr = 0) && match l[s.at_]? with
    | some t => decide (t.kind = k) && (ts.isEmpty || hasB ts t.text)
    | none => false
structure SS where
  at_ : Nat
  bad : Nat
  out : List Stp
def stepS (p : SS) : SS := ⟨p.at_ + 1, p.bad, p.out⟩
def putS (p : SS) (x : Stp) : SS := if p.bad = 0 then ⟨p.at_, p.bad, p.out ++ [x]⟩ else p
structure TokG (t : Tok) : Prop where
  sign : t.text ∈ [tPlus, tMinus, tStar, tDot, tOpen, tShut] → t.kind = 4
  word : t.text ∈ [tDiv, tMod] → t.kind = 2
def RelS (s : RS) (p : SS) : Prop := p.at_ = s.at_ ∧ p.bad = s.wr
theorem RelS.step {s : RS} {p : SS} (h : RelS s p) : RelS ⟨s.at_ + 1, s.wr⟩ (stepS p) := by
  obtain ⟨h1, h2⟩ := h
  simp [RelS, stepS, h1, h2]
theorem RelS.put {s : RS} {p : SS} (h : RelS s p) (x : Stp) : RelS s (putS p x) := by
  obtain ⟨h1, h2⟩ := h
  unfold putS
  split <;> simp_all [RelS]
section
variable {l : List Tok} (hl : ∀ t ∈ l, TokG t)
include hl
omit hl in
end
end Go.TM
end
section
namespace Go.TM
open Go
def bA (b : ByteArray) (i : Nat) : Nat := (b.data.getD i 0).toNat
theorem bA_lt (b : ByteArray) (i : Nat) : bA b i < 256 := (b.data.getD i 0).toNat_lt
def digV (base x : Nat) : Option Nat :=
  if 48 ≤ x ∧ x ≤ 57 then (if x - 48 < base then some (x - 48) else none)
  else if 65 ≤ x ∧ x ≤ 70 then (if x - 55 < base then some (x - 55) else none) else none
theorem digV_ten {x : Nat} : (digV 10 x).isSome = digitB x := by
  unfold digV digitB
  split
  · rename_i h
    have : x - 48 < 10 := by omega
    have a : (48 : Int) ≤ x := by omega
    have b : (x : Int) ≤ 57 := by omega
    simp [this, a, b]
  · rename_i h
    have hd : (decide ((48 : Int) ≤ x) && decide ((x : Int) ≤ 57)) = false := by
      rw [Bool.eq_false_iff]
      intro hh
      simp only [Bool.and_eq_true, decide_eq_true_eq] at hh
      omega
    rw [hd]
    split
    · rename_i h2
      have : ¬ x - 55 < 10 := by omega
      simp [this]
    · rfl
def lpN (s : ByteArray) (base most : Nat) : Nat → Nat → Nat → Option Nat
  | 0, _, n => some n
  | f + 1, i, n => match digV base (bA s i) with
    | none => none
    | some d => if most ≤ i then none else lpN s base most f (i + 1) (n * base + d)
def numS (s : ByteArray) : Option Nat :=
  if s.size = 0 then none
  else if digitB (bA s 0) = false then none
  else if bA s (s.size - 1) = 72 then lpN s 16 7 (s.size - 1) 0 0
  else lpN s 10 9 s.size 0 0
def valN (s : ByteArray) (base : Nat) : Nat → Nat → Nat → Nat
  | 0, _, n => n
  | f + 1, i, n => valN s base f (i + 1) (n * base + (digV base (bA s i)).getD 0)
def allD (base : Nat) (s : ByteArray) : Nat → Nat → Bool
  | 0, _ => true
  | f + 1, i => (digV base (bA s i)).isSome && allD base s f (i + 1)
def numI (s : ByteArray) : Option Nat :=
  if (1 ≤ s.size ∧ s.size ≤ 9) ∧ allD 10 s s.size 0 = true then some (valN s 10 s.size 0 0)
  else if ((1 ≤ s.size ∧ bA s (s.size - 1) = 72) ∧ (1 ≤ s.size - 1 ∧ s.size - 1 ≤ 7) ∧ allD 16 s (s.size - 1) 0 = true) ∧ digitB (bA s 0) = true then some (valN s 16 (s.size - 1) 0 0)
  else none
theorem lpN_eq (s : ByteArray) (base most : Nat) : ∀ (f i n : Nat), lpN s base most f i n = if allD base s f i = true ∧ (i + f ≤ most ∨ f = 0) then some (valN s base f i n) else none
  | 0, i, n => by simp [lpN, allD, valN]
  | f + 1, i, n => by
    unfold lpN allD valN
    cases hd : digV base (bA s i) with
    | none => simp
    | some d =>
      simp only [Option.isSome_some, Bool.true_and, Option.getD_some]
      by_cases hm : most ≤ i
      · rw [if_pos hm, if_neg (by omega)]
      · rw [if_neg hm, lpN_eq s base most f (i + 1)]
        have e : (i + 1 + f ≤ most ∨ f = 0) ↔ (i + (f + 1) ≤ most ∨ f + 1 = 0) := by omega
        simp only [e]
theorem allD_get {base : Nat} {s : ByteArray} : ∀ {f i : Nat}, allD base s f i = true → ∀ j, j < f → (digV base (bA s (i + j))).isSome = true
  | 0, _, _, j, hj => by omega
  | f + 1, i, h, j, hj => by
    unfold allD at h
    rw [Bool.and_eq_true] at h
    cases j with
    | zero => exact h.1
    | succ j =>
      have := allD_get h.2 j (by omega)
      rwa [show i + (j + 1) = i + 1 + j by omega]
theorem num_eq (s : ByteArray) : numI s = numS s := by
  unfold numI numS
  by_cases h0 : s.size = 0
  · rw [if_neg (by omega), if_neg (by omega), if_pos h0]
  · rw [if_neg h0]
    by_cases hd : digitB (bA s 0) = false
    · rw [if_pos hd]
      rw [if_neg, if_neg (by simp [hd])]
      rintro ⟨_, h⟩
      have := allD_get h 0 (by omega)
      rw [digV_ten] at this
      simp only [Nat.add_zero] at this
      rw [hd] at this
      cases this
    · rw [if_neg hd]
      have hd' : digitB (bA s 0) = true := by simpa using hd
      by_cases hl : bA s (s.size - 1) = 72
      · rw [if_pos hl, if_neg, lpN_eq]
        · have h1 : 1 ≤ s.size - 1 := by
            by_cases h : s.size = 1
            · rw [h] at hl
              simp only [Nat.sub_self] at hl
              rw [hl] at hd'
              exact absurd hd' (by decide)
            · omega
          simp only [hl, hd', h1, and_true, true_and, Nat.zero_add]
          congr 1
          simp only [eq_iff_iff]
          constructor
          · rintro ⟨_, h, h2⟩
            exact ⟨h2, .inl h⟩
          · rintro ⟨h, h2⟩
            exact ⟨by omega, by omega, h⟩
        · rintro ⟨_, h⟩
          have := allD_get h (s.size - 1) (by omega)
          rw [digV_ten] at this
          simp only [Nat.zero_add] at this
          rw [hl] at this
          exact absurd this (by decide)
      · have hno : ¬ (((1 ≤ s.size ∧ bA s (s.size - 1) = 72) ∧ (1 ≤ s.size - 1 ∧ s.size - 1 ≤ 7) ∧ allD 16 s (s.size - 1) 0 = true) ∧ digitB (bA s 0) = true) := fun h => hl h.1.1.2
        rw [if_neg hl, lpN_eq, if_neg hno]
        by_cases hc : (1 ≤ s.size ∧ s.size ≤ 9) ∧ allD 10 s s.size 0 = true
        · rw [if_pos hc, if_pos ⟨hc.2, .inl (by omega)⟩]
        · rw [if_neg hc, if_neg]
          rintro ⟨h, h2⟩
          exact hc ⟨by omega, h⟩
theorem valN_lt {s : ByteArray} {base : Nat} (hb : 0 < base) : ∀ (f i n c : Nat), n < base ^ c → valN s base f i n < base ^ (c + f)
  | 0, i, n, c, h => h
  | f + 1, i, n, c, h => by
    unfold valN
    have hd : (digV base (bA s i)).getD 0 < base := by
      unfold digV
      split
      · split
        · assumption
        · exact hb
      · split
        · split
          · assumption
          · exact hb
        · exact hb
    have := valN_lt (s := s) hb f (i + 1) (n * base + (digV base (bA s i)).getD 0) (c + 1) (by
      rw [Nat.pow_succ]
      calc n * base + (digV base (bA s i)).getD 0 < n * base + base := by omega
        _ = (n + 1) * base := by rw [Nat.add_mul, Nat.one_mul]
        _ ≤ base ^ c * base := Nat.mul_le_mul_right _ h)
    rwa [show c + 1 + f = c + (f + 1) by omega] at this
def alnB (x : Nat) : Bool := letterB x || digitB x
def wl (s : ByteArray) : Nat → Nat → Nat
  | 0, i => i
  | f + 1, i => if i < s.size ∧ alnB (bA s i) = true then wl s f (i + 1) else i
theorem wl_more (s : ByteArray) : ∀ (f i : Nat), s.size ≤ i + f → wl s (f + 1) i = wl s f i
  | 0, i, h => by
    simp only [wl]
    rw [if_neg (by omega)]
  | f + 1, i, h => by
    rw [wl]
    conv => rhs; rw [wl]
    split
    · exact wl_more s f (i + 1) (by omega)
    · rfl
theorem wl_le (s : ByteArray) : ∀ (f i : Nat), i ≤ s.size → i ≤ wl s f i ∧ wl s f i ≤ s.size
  | 0, i, h => ⟨Nat.le_refl _, h⟩
  | f + 1, i, h => by
    unfold wl
    split
    · rename_i hc
      have := wl_le s f (i + 1) (by omega)
      omega
    · exact ⟨Nat.le_refl _, h⟩
theorem wl_all (s : ByteArray) : ∀ (f i j : Nat), i ≤ j → j < wl s f i → alnB (bA s j) = true
  | 0, i, j, h1, h2 => by
    simp only [wl] at h2
    omega
  | f + 1, i, j, h1, h2 => by
    unfold wl at h2
    split at h2
    · rename_i hc
      by_cases e : i = j
      · subst e
        exact hc.2
      · exact wl_all s f (i + 1) j (by omega) h2
    · omega
def tW (l : List UInt8) : ByteArray := ⟨l.toArray⟩
def words15 : List ByteArray := [tW [77,79,68,85,76,69], tW [73,77,80,79,82,84], tW [67,79,78,83,84], tW [84,89,80,69], tW [86,65,82], tW [80,82,79,67], tW [85,83,69], tW [69,78,68], tW [65,82,82,65,89], tW [79,70], tW [82,69,67,79,82,68], tW [80,79,73,78,84,69,82], tW [84,79], tW [68,73,86], tW [77,79,68]]
def signs : List Nat := [59, 44, 46, 58, 61, 42, 45, 43, 40, 41]
def signB (x : Nat) : Bool := signs.any fun y => decide (y = x)
def tokA (s : ByteArray) : Tok × Nat × Int :=
  if signB (bA s 0) = true then (⟨4, s.extract 0 1, 0, 0⟩, 1, 0)
  else if wl s s.size 0 = 0 then (Tok.zero, 0, 4)
  else if hasB words15 (s.extract 0 (wl s s.size 0)) = true then (⟨2, s.extract 0 (wl s s.size 0), 0, 0⟩, wl s s.size 0, 0)
  else if digitB (bA s 0) = true then (match numI (s.extract 0 (wl s s.size 0)) with
    | some v => (⟨3, s.extract 0 (wl s s.size 0), v, 0⟩, wl s s.size 0, 0)
    | none => (Tok.zero, 0, 3))
  else if 10 < wl s s.size 0 then (Tok.zero, 0, 3)
  else (⟨1, s.extract 0 (wl s s.size 0), 0, 0⟩, wl s s.size 0, 0)
def endS (s : ByteArray) (i : Nat) : Nat := if alnB (bA s i) = true then wl s s.size (i + 1) else i + 1
def oneS (s : ByteArray) (i : Nat) : Tok × Int :=
  if letterB (bA s i) = true then
    (if hasB words15 (s.extract i (endS s i)) = true then (⟨2, s.extract i (endS s i), 0, i⟩, 0)
     else if nameB (s.extract i (endS s i)) = false then (⟨1, s.extract i (endS s i), 0, i⟩, 3)
     else (⟨1, s.extract i (endS s i), 0, i⟩, 0))
  else if digitB (bA s i) = true then (match numS (s.extract i (endS s i)) with
    | some v => (⟨3, s.extract i (endS s i), v, i⟩, 0)
    | none => (⟨4, s.extract i (endS s i), 0, i⟩, 3))
  else if signB (bA s i) = false then (⟨4, s.extract i (endS s i), 0, i⟩, 4)
  else (⟨4, s.extract i (endS s i), 0, i⟩, 0)
theorem extract_sz (s : ByteArray) {i j : Nat} (hj : j ≤ s.size) : (s.extract i j).size = j - i := by
  rw [ByteArray.size_extract]
  omega
theorem bA_extract {s : ByteArray} {i j k : Nat} (hj : j ≤ s.size) (hk : k < j - i) : bA (s.extract i j) k = bA s (i + k) := by
  have h1 : k < (s.extract i j).size := by rw [extract_sz s hj]; exact hk
  have h2 : i + k < s.size := by omega
  have e : ((s.extract i j).data.getD k 0) = s.data.getD (i + k) 0 := by
    have a1 : k < (s.extract i j).data.size := h1
    have a2 : i + k < s.data.size := h2
    rw [Array.getD, Array.getD, dif_pos a1, dif_pos a2]
    have := ByteArray.data_extract (a := s) (b := i) (e := j)
    simp [this]
  unfold bA
  rw [e]
theorem bA_getElem {s : ByteArray} {i : Nat} (h : i < s.size) : s.data.toList[i]? = some (s.data.getD i 0) := by
  have h' : i < s.data.size := h
  rw [Array.getElem?_toList, Array.getElem?_eq_getElem h', Array.getD, dif_pos h']
  rfl
theorem allI_of {p : Nat → UInt8 → Bool} {l : List UInt8} : ∀ (n : Nat), (∀ i x, i < n → l[i]? = some x → p i x = true) → allI p l n = true := by
  intro n
  induction n with
  | zero => intro _; simp [allI]
  | succ n ih =>
    intro h
    have h0 := ih fun i x hi hx => h i x (by omega) hx
    cases hx : l[n]? with
    | none =>
      have e : l.take (n + 1) = l.take n := by
        rw [List.getElem?_eq_none_iff] at hx
        rw [List.take_of_length_le (by omega), List.take_of_length_le hx]
      simp only [allI] at h0 ⊢
      first
        | rw [e]; exact h0
        | simpa [e] using h0
    | some x =>
      rw [allI_succ hx, h0, h n x (by omega) hx]
      rfl
theorem name_of {t : ByteArray} (h0 : letterB (bA t 0) = true) (hall : ∀ j, j < t.size → alnB (bA t j) = true) (hs : 1 ≤ t.size) : nameB t = decide (t.size ≤ 10) := by
  have h1 : allI okB t.data.toList t.size = true := by
    refine allI_of _ fun i x hi hx => ?_
    rw [bA_getElem hi] at hx
    cases hx
    unfold okB
    by_cases e : i = 0
    · subst e
      rw [Bool.or_eq_true]
      exact .inl h0
    · have := hall i hi
      unfold alnB bA at this
      simpa [e] using this
  unfold nameB
  rw [h1, Bool.true_and]
  unfold inB
  have : (1 : Int) ≤ t.size := by omega
  rw [decide_eq_true this, Bool.true_and]
  rw [Bool.eq_iff_iff]
  simp
  omega
theorem words_letter : ∀ w ∈ words15, letterB (bA w 0) = true ∧ 1 ≤ w.size := by decide
theorem hasB_mem {l : List ByteArray} {s : ByteArray} (h : hasB l s = true) : s ∈ l := by
  unfold hasB at h
  rw [List.any_eq_true] at h
  obtain ⟨x, hx, h⟩ := h
  rw [decide_eq_true_eq] at h
  rw [← h]
  exact hx
theorem sign_no {x : Nat} (h : signB x = true) : letterB x = false ∧ digitB x = false := by
  unfold signB at h
  rw [List.any_eq_true] at h
  obtain ⟨y, hy, h⟩ := h
  rw [decide_eq_true_eq] at h
  subst h
  revert hy
  revert y
  decide
theorem letter_dig {x : Nat} (h : letterB x = true) : digitB x = false := by
  unfold letterB at h
  unfold digitB
  rw [Bool.eq_false_iff]
  intro hh
  simp only [Bool.or_eq_true, Bool.and_eq_true, decide_eq_true_eq] at h hh
  omega
theorem wl_first {s : ByteArray} (hs : 1 ≤ s.size) (h : alnB (bA s 0) = true) : wl s s.size 0 = wl s s.size 1 := by
  rw [← wl_more s s.size 0 (by omega), wl, if_pos ⟨by omega, h⟩]
theorem tok_one {s : ByteArray} (hs : 1 ≤ s.size) : (tokA s).2.2 = (oneS s 0).2 ∧ ((tokA s).2.2 = 0 → (tokA s).1 = (oneS s 0).1 ∧ (tokA s).1.text = s.extract 0 (tokA s).2.1 ∧ 1 ≤ (tokA s).2.1 ∧ (tokA s).2.1 ≤ s.size) := by
  unfold tokA oneS
  by_cases hsg : signB (bA s 0) = true
  · obtain ⟨hl, hd⟩ := sign_no hsg
    have ha : alnB (bA s 0) = false := by simp [alnB, hl, hd]
    simp [hsg, hl, hd, endS, ha]
    omega
  · have hsg' : signB (bA s 0) = false := by simpa using hsg
    rw [if_neg hsg]
    by_cases ha : alnB (bA s 0) = true
    · have hw := wl_first hs ha
      have he : endS s 0 = wl s s.size 0 := by
        unfold endS
        rw [if_pos ha, hw]
      have hle := wl_le s s.size 1 hs
      have hall : ∀ j, j < wl s s.size 0 → alnB (bA s j) = true := fun j hj => wl_all s _ 0 j (Nat.zero_le _) hj
      rw [he]
      rw [← hw] at hle
      generalize wl s s.size 0 = n at hle hall
      rw [if_neg (by omega)]
      have hsz : (s.extract 0 n).size = n := by rw [extract_sz s hle.2]; omega
      have hb0 : bA (s.extract 0 n) 0 = bA s 0 := by rw [bA_extract hle.2 (by omega)]
      by_cases hl : letterB (bA s 0) = true
      · have hd := letter_dig hl
        have hnm := name_of (t := s.extract 0 n) (by rw [hb0]; exact hl) (fun j hj => by rw [bA_extract hle.2 (by omega)]; simpa using hall j (by omega)) (by omega)
        rw [hsz] at hnm
        rw [if_pos hl, hd, hnm]
        by_cases hh : hasB words15 (s.extract 0 n) = true
        · simp [hh]
          omega
        · rw [if_neg hh, if_neg hh]
          by_cases h10 : 10 < n
          · have : ¬ n ≤ 10 := by omega
            simp [h10, this]
          · have : n ≤ 10 := by omega
            simp [h10, this]
            omega
      · have hd : digitB (bA s 0) = true := by
          unfold alnB at ha
          simp only [Bool.or_eq_true] at ha
          exact ha.resolve_left hl
        have hh : ¬ hasB words15 (s.extract 0 n) = true := by
          intro h
          have := (words_letter _ (hasB_mem h)).1
          rw [hb0] at this
          exact hl this
        rw [if_neg hh, if_pos hd, if_neg hl, if_pos hd, num_eq]
        cases numS (s.extract 0 n) with
        | none => simp
        | some v =>
          simp
          omega
    · have hl : letterB (bA s 0) = false := by
        cases h : letterB (bA s 0) with
        | true => exact absurd (by simp [alnB, h]) ha
        | false => rfl
      have hd : digitB (bA s 0) = false := by
        cases h : digitB (bA s 0) with
        | true => exact absurd (by simp [alnB, h]) ha
        | false => rfl
      have hw : wl s s.size 0 = 0 := by
        rw [← wl_more s s.size 0 (by omega), wl, if_neg (by rintro ⟨_, h⟩; exact ha h)]
      rw [if_pos hw]
      simp [hl, hd, hsg']
def isOpenC (s : ByteArray) (i : Nat) : Bool := decide (i + 1 < s.size) && decide (bA s i = 40) && decide (bA s (i + 1) = 42)
def isShutC (s : ByteArray) (i : Nat) : Bool := decide (i + 1 < s.size) && decide (bA s i = 42) && decide (bA s (i + 1) = 41)
def remI (s : ByteArray) : Nat → Nat → Int → Nat
  | 0, _, _ => 0
  | f + 1, i, d => if i + 1 < s.size then
      (if isOpenC s i = true then (if d + 1 = 0 then i + 2 else remI s f (i + 2) (d + 1))
       else if isShutC s i = true then (if d - 1 = 0 then i + 2 else remI s f (i + 2) (d - 1))
       else if d = 0 then i + 1 else remI s f (i + 1) d)
    else 0
def rtL (s : ByteArray) : Nat → Nat → List Tok → List Tok × Int × Int
  | 0, _, out => (out, 0, 0)
  | f + 1, p, out => if p < s.size then
      (if bA s p = 32 ∨ bA s p = 10 then rtL s f (p + 1) out
       else if isOpenC s p = true then
         (if remI (s.extract p s.size) (s.size + 1) 0 0 = 0 then ([], 2, p) else rtL s f (p + remI (s.extract p s.size) (s.size + 1) 0 0) out)
       else if (tokA (s.extract p s.size)).2.2 = 0 then rtL s f (p + (tokA (s.extract p s.size)).2.1) (out ++ [⟨(tokA (s.extract p s.size)).1.kind, (tokA (s.extract p s.size)).1.text, (tokA (s.extract p s.size)).1.value, p⟩])
       else ([], (tokA (s.extract p s.size)).2.2, p))
    else (out, 0, 0)
def readT (s : ByteArray) : List Tok × Int × Int :=
  if 1200 < s.size then ([], 1, 0)
  else if (rtL s (s.size + 1) 0 []).2.1 = 0 ∧ 300 < (rtL s (s.size + 1) 0 []).1.length then ([], 5, 0)
  else rtL s (s.size + 1) 0 []
end Go.TM
end
section
namespace Go.TM
open Go
theorem remI_le (s : ByteArray) : ∀ (f i : Nat) (d : Int), remI s f i d ≤ s.size
  | 0, i, d => Nat.zero_le _
  | f + 1, i, d => by
    unfold remI
    split
    · rename_i h
      split
      · split
        · omega
        · exact remI_le s f _ _
      · split
        · split
          · omega
          · exact remI_le s f _ _
        · split
          · omega
          · exact remI_le s f _ _
    · exact Nat.zero_le _
theorem oneS_nonneg (s : ByteArray) (i : Nat) : 0 ≤ (oneS s i).2 := by
  unfold oneS
  split
  · split
    · simp
    · split <;> simp
  · split
    · split <;> simp
    · split <;> simp
end Go.TM
end
