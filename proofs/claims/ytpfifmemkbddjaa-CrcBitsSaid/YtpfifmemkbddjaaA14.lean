/- The abstract machine, part 14: statements and calls. -/
import Derived.Test.YtpfifmemkbddjaaA13
import Derived.Tactics
import Derived.LoopN
import Derived.Scope
set_option linter.unusedVariables false
set_option linter.unusedSimpArgs false
namespace Go.AM

structure St where
  n : Nat
  t : Tr AV
  m : Mem

def StR (ι : Inj) (st : St) (a : Act) (w : World) : Prop := a.tmps.size = st.n ∧ FrR ι st.t a ∧ a.defers = [] ∧ Rel ι st.m w

inductive Ex where
  | normal
  | exit (id : Nat)
  | goto (l : Nat)
  | ret

def Ex.c : Ex → Exit
  | .normal => .normal
  | .exit i => .exit i
  | .goto l => .goto l
  | .ret => .ret

def Post (ι : Inj) (m : Mem) (w : World) (Q : Ex → St → Prop) : Exit → Act → World → Prop :=
  fun e a' w' => ∃ ι' ex st', e = ex.c ∧ StR ι' st' a' w' ∧ Stp ι m w ι' st'.m w' ∧ Q ex st'

def WpA (P : Program) (c : Code) (st : St) (Q : Ex → St → Prop) : Prop :=
  ∀ ι a w, StR ι st a w → c.wp P (Post ι st.m w Q) a w

def CallA (P : Program) (f : FuncId) (args : List AV) (M : Mem) (Q : AV → Mem → Prop) : Prop :=
  ∀ ι w (vs : Array Value), VRs ι args vs.toList → Rel ι M w →
    Calls P f vs w fun e w' => ∃ ι' v x M', e = .returned v ∧ VR ι' x v ∧ Stp ι M w ι' M' w' ∧ Q x M'

theorem CallA.mono {P : Program} {f : FuncId} {args : List AV} {M : Mem} {Q Q' : AV → Mem → Prop} (h : CallA P f args M Q) (hq : ∀ x M', Q x M' → Q' x M') : CallA P f args M Q' :=
  fun ι w vs hv R => (h ι w vs hv R).mono fun _ _ ⟨ι', v, x, M', h1, h2, h3, h4⟩ => ⟨ι', v, x, M', h1, h2, h3, hq x M' h4⟩

theorem Post.trans {ι ι1 : Inj} {m m1 : Mem} {w w1 : World} {Q : Ex → St → Prop} (S : Stp ι m w ι1 m1 w1) {e : Exit} {a : Act} {w' : World} (h : Post ι1 m1 w1 Q e a w') : Post ι m w Q e a w' := by
  obtain ⟨ι', ex, st', h1, h2, h3, h4⟩ := h
  exact ⟨ι', ex, st', h1, h2, S.trans h3, h4⟩

section rules
variable {P : Program} {st : St} {Q Q' : Ex → St → Prop}

theorem wpa_mono {c : Code} (h : WpA P c st Q) (hq : ∀ ex st', Q ex st' → Q' ex st') : WpA P c st Q' := fun ι a w hs =>
  wp_mono (h ι a w hs) fun _ _ _ ⟨ι', ex, st', h1, h2, h3, h4⟩ => ⟨ι', ex, st', h1, h2, h3, hq ex st' h4⟩

theorem wpa_skip (h : Q .normal st) : WpA P .skip st Q := fun ι _ _ hs => wp_skip ⟨ι, .normal, st, rfl, hs, Stp.refl hs.2.2.2, h⟩
theorem wpa_label {l : Nat} (h : Q .normal st) : WpA P (.label l) st Q := fun ι _ _ hs => wp_label ⟨ι, .normal, st, rfl, hs, Stp.refl hs.2.2.2, h⟩
theorem wpa_exit {i : Nat} (h : Q (.exit i) st) : WpA P (.exit i) st Q := fun ι _ _ hs => wp_exit ⟨ι, .exit i, st, rfl, hs, Stp.refl hs.2.2.2, h⟩
theorem wpa_goto {l : Nat} (h : Q (.goto l) st) : WpA P (.goto l) st Q := fun ι _ _ hs => wp_goto ⟨ι, .goto l, st, rfl, hs, Stp.refl hs.2.2.2, h⟩
theorem wpa_ret (h : Q .ret st) : WpA P .ret st Q := fun ι _ _ hs => wp_ret ⟨ι, .ret, st, rfl, hs, Stp.refl hs.2.2.2, h⟩

/-- What comes behind a statement. -/
def andThen (K : St → Prop) (Q : Ex → St → Prop) : Ex → St → Prop
  | .normal, st => K st
  | ex, st => Q ex st

theorem Post.then {ι : Inj} {m : Mem} {w : World} {c : Code} {e : Exit} {a : Act} {w' : World} (h : Post ι m w (andThen (fun st => WpA P c st Q) Q) e a w') :
    Exit.then (c.wp P (Post ι m w Q)) (Post ι m w Q) e a w' := by
  obtain ⟨ι', ex, st', rfl, h2, h3, h4⟩ := h
  cases ex with
  | normal => exact wp_mono (h4 ι' a w' h2) fun _ _ _ => Post.trans h3
  | exit i => exact ⟨ι', .exit i, st', rfl, h2, h3, h4⟩
  | goto l => exact ⟨ι', .goto l, st', rfl, h2, h3, h4⟩
  | ret => exact ⟨ι', .ret, st', rfl, h2, h3, h4⟩

theorem wpa_seq {x y : Code} (h : WpA P x st (andThen (fun st => WpA P y st Q) Q)) : WpA P (.seq x y) st Q := fun ι a w hs =>
  wp_seq (wp_mono (h ι a w hs) fun _ _ _ => Post.then)

theorem wpa_cond {c : Operand} {x y : Code} {b : Bool} (hc : opnd st.t c = .val (.bool b)) (h : WpA P (cond b x y) st Q) : WpA P (.cond c x y) st Q := fun ι a w hs => by
  have hv := opnd_ok hs.2.1 c
  rw [hc] at hv
  have he : a.eval c = .bool b := by
    generalize a.eval c = v at hv
    cases hv; rfl
  refine wp_cond he ?_
  have := h ι a w hs
  cases b <;> exact this

def onExit (id : Nat) (Q : Ex → St → Prop) : Ex → St → Prop
  | .exit i, st => if i = id then Q .normal st else Q (.exit i) st
  | ex, st => Q ex st

theorem wpa_block {id : Nat} {c : Code} (h : WpA P c st (onExit id Q)) : WpA P (.block id c) st Q := fun ι a w hs =>
  wp_block (wp_mono (h ι a w hs) fun e a' w' ⟨ι', ex, st', h1, h2, h3, h4⟩ => by
    subst h1
    cases ex with
    | normal => exact ⟨ι', .normal, st', rfl, h2, h3, h4⟩
    | exit i =>
      simp only [Ex.c, Exit.inBlock]
      simp only [onExit] at h4
      split
      · rename_i hi
        rw [if_pos hi] at h4
        exact ⟨ι', .normal, st', rfl, h2, h3, h4⟩
      · rename_i hi
        rw [if_neg hi] at h4
        exact ⟨ι', .exit i, st', rfl, h2, h3, h4⟩
    | goto l => exact ⟨ι', .goto l, st', rfl, h2, h3, h4⟩
    | ret => exact ⟨ι', .ret, st', rfl, h2, h3, h4⟩)

/-- So many rounds. -/
def RdA (P : Program) (c : Code) (Q : Ex → St → Prop) : Nat → St → Prop
  | 0, _ => False
  | n + 1, st => WpA P c st (andThen (RdA P c Q n) Q)

theorem rounds_of {c : Code} : ∀ (n : Nat) (st : St), RdA P c Q n st → ∀ ι0 m0 w0 ι a w, Stp ι0 m0 w0 ι st.m w → StR ι st a w → Code.rounds P c (Post ι0 m0 w0 Q) n a w
  | 0, _, h, _, _, _, _, _, _, _, _ => h.elim
  | n + 1, st, h, ι0, m0, w0, ι, a, w, S, hs => by
    show c.wp P (Exit.then (Code.rounds P c (Post ι0 m0 w0 Q) n) (Post ι0 m0 w0 Q)) a w
    refine wp_mono (h ι a w hs) ?_
    rintro e a' w' ⟨ι', ex, st', rfl, h2, h3, h4⟩
    cases ex with
    | normal => exact rounds_of n st' h4 ι0 m0 w0 ι' a' w' (S.trans h3) h2
    | exit i => exact ⟨ι', .exit i, st', rfl, h2, S.trans h3, h4⟩
    | goto l => exact ⟨ι', .goto l, st', rfl, h2, S.trans h3, h4⟩
    | ret => exact ⟨ι', .ret, st', rfl, h2, S.trans h3, h4⟩

theorem wpa_rounds {c : Code} (n : Nat) (h : RdA P c Q n st) : WpA P (.loop c) st Q := fun ι a w hs =>
  wp_loop_rounds n (rounds_of n st h ι st.m w ι a w (Stp.refl hs.2.2.2) hs)

theorem wpa_loop {c : Code} (I : St → Prop) (μ : St → Nat) (h0 : I st) (hr : ∀ st, I st → WpA P c st (andThen (fun st' => I st' ∧ μ st' < μ st) Q)) : WpA P (.loop c) st Q := by
  have key : ∀ n st, I st → μ st < n → RdA P c Q n st := by
    intro n
    induction n with
    | zero => intro st _ h; omega
    | succ n ih =>
      intro st hI hm
      refine wpa_mono (hr st hI) fun ex st' hq => ?_
      cases ex with
      | normal => exact ih st' hq.1 (by have := hq.2; omega)
      | exit i => exact hq
      | goto l => exact hq
      | ret => exact hq
  exact wpa_rounds (μ st + 1) (key _ st h0 (by omega))

/-- Within a scope: from a statement of it on. -/
def WpS (P : Program) (whole cur : Code) (st : St) (Q : Ex → St → Prop) : Prop :=
  ∀ ι a w, StR ι st a w → ∀ (b : Frame) (k : List Item) (cs : List Frame),
    ∃ e a' w', Post ι st.m w Q e a' w' ∧ Arrives P (lone (b.at a (.code cur :: .inScope whole :: k)) cs w) b k cs e a' w'

def onGoto (P : Program) (whole : Code) (Q : Ex → St → Prop) : Ex → St → Prop
  | .goto l, st => match findLabel whole l with
    | some rest => WpS P whole rest st Q
    | none => Q (.goto l) st
  | ex, st => Q ex st

theorem wps_intro {whole cur : Code} (h : WpA P cur st (onGoto P whole Q)) : WpS P whole cur st Q := by
  intro ι a w hs b k cs
  obtain ⟨e, a1, w1, ⟨ι1, ex, st1, rfl, h2, h3, h4⟩, harr⟩ := h ι a w hs b (.inScope whole :: k) cs
  cases ex with
  | normal => exact ⟨.normal, a1, w1, ⟨ι1, .normal, st1, rfl, h2, h3, h4⟩, Steps.trans harr (.one step_inScope)⟩
  | exit i => exact ⟨.exit i, a1, w1, ⟨ι1, .exit i, st1, rfl, h2, h3, h4⟩, fun k' hk => harr k' (by simp [exitTo, hk])⟩
  | ret => exact ⟨.ret, a1, w1, ⟨ι1, .ret, st1, rfl, h2, h3, h4⟩, harr⟩
  | goto l =>
    simp only [onGoto] at h4
    split at h4
    · rename_i rest hf
      obtain ⟨e2, a2, w2, hp, harr2⟩ := h4 ι1 a1 w1 h2 b k cs
      have hg : gotoIn l (.inScope whole :: k) = some (.code rest :: .inScope whole :: k) := by simp [gotoIn, hf]
      exact ⟨e2, a2, w2, Post.trans h3 hp, .of_steps (harr _ hg) harr2⟩
    · rename_i hf
      refine ⟨.goto l, a1, w1, ⟨ι1, .goto l, st1, rfl, h2, h3, h4⟩, fun k' hk => harr k' ?_⟩
      simp [gotoIn, hf, hk]

theorem wpa_scope {c : Code} (h : WpS P c c st Q) : WpA P (.scope c) st Q := fun ι a w hs b k cs => by
  obtain ⟨e, a1, w1, hp, harr⟩ := h ι a w hs b k cs
  exact ⟨e, a1, w1, hp, .of_steps (.one step_scope) harr⟩

end rules

/-! ## Regions -/

def putA (st : St) (dst : Option Tmp) (x : AV) : Option St :=
  match dst with
  | none => some st
  | some d => cond (Nat.blt d st.n) (some { st with t := st.t.set d (some x) }) none

theorem putA_ok {ι : Inj} {st st' : St} {a : Act} {w : World} (hs : StR ι st a w) {dst : Option Tmp} {x : AV} {v : Value} (hv : VR ι x v) (h : putA st dst x = some st') : StR ι st' (a.put dst v) w := by
  unfold putA at h
  split at h
  · injection h with h; subst h; exact hs
  · rename_i d
    rw [cond_eq_ite] at h
    split at h
    · rename_i hd
      have hd : d < st.n := Nat.le_of_ble_eq_true hd
      injection h with h; subst h
      obtain ⟨h1, h2, h3, h4⟩ := hs
      refine ⟨by simp [Act.put, h1], fun i => ?_, h3, h4⟩
      simp only [Act.put, Tr.get_set]
      by_cases hi : i = d
      · subst hi
        rw [if_pos rfl]
        have : (a.tmps.setIfInBounds i v).getD i undef = v := by simp [h1, hd]
        rw [this]
        exact hv
      · rw [if_neg hi]
        have : (a.tmps.setIfInBounds d v).getD i undef = a.tmps.getD i undef := by
          simp [Array.getElem?_setIfInBounds_ne (fun h => hi h.symm)]
        rw [this]
        exact h2 i
    · simp at h

def wantedA (ops : Array Oper) (t : Tr AV) (o : Oper) : Option Bool :=
  match o.guard with
  | none => some true
  | some (j, want) =>
    match (ops[j]?).bind (·.dst) with
    | none => none
    | some d =>
      match t.get d with
      | some (.val (.bool b)) => some (cond b want (!want))
      | some (.tup _) => some false
      | _ => none

theorem wantedA_ok {ι : Inj} {ops : Array Oper} {t : Tr AV} {a : Act} (hf : FrR ι t a) {o : Oper} {b : Bool} (h : wantedA ops t o = some b) : Region.wanted o (yielded ops a.tmps) = b := by
  unfold wantedA at h
  unfold Region.wanted
  split at h
  · rename_i hg
    injection h with h; subst h
    rw [hg]
  · rename_i j want hg
    rw [hg]
    simp only
    split at h
    · simp at h
    · rename_i d hd
      have hv := hf d
      unfold yielded
      rw [hd]
      simp only [Option.bind_some]
      split at h
      · rename_i c hc
        injection h with h; subst h
        rw [hc] at hv
        simp only [Option.getD_some] at hv
        have hx : a.tmps[d]? = some (.bool c) := by
          rw [Array.getD_eq_getD_getElem?] at hv
          cases hx : a.tmps[d]? with
          | none => rw [hx] at hv; simp only [Option.getD_none] at hv; cases hv
          | some u => rw [hx] at hv; simp only [Option.getD_some] at hv; cases hv; rfl
        rw [hx]
        cases c <;> cases want <;> rfl
      · rename_i vs hc
        injection h with h; subst h
        rw [hc] at hv
        simp only [Option.getD_some] at hv
        rw [Array.getD_eq_getD_getElem?] at hv
        cases hx : a.tmps[d]? with
        | none => rfl
        | some u =>
          rw [hx] at hv; simp only [Option.getD_some] at hv; cases hv
          rfl
      · simp at h

/-- Operations, one behind the other. -/
def WpO (P : Program) (ops : Array Oper) (todo : List Oper) (st : St) (Q : Ex → St → Prop) : Prop :=
  ∀ ι a w, StR ι st a w → wpList P ops (Post ι st.m w Q) todo a w

theorem wpList_mono {P : Program} {ops : Array Oper} {Q Q' : Exit → Act → World → Prop} (hq : ∀ e a w, Q e a w → Q' e a w) : ∀ (l : List Oper) (a : Act) (w : World), wpList P ops Q l a w → wpList P ops Q' l a w
  | [], a, w, h => hq _ _ _ h
  | o :: l, a, w, h => by
    unfold wpList at h ⊢
    split
    · rename_i hw
      rw [if_pos hw] at h
      rcases h with h | ⟨h1, a', w', h2⟩
      · refine .inl ?_
        unfold Oper.wp at h ⊢
        generalize (execOp a.eval o).run P w = r at h ⊢
        cases r with
        | ok n w' =>
          cases n <;> simp only [Oper.upon] at h ⊢ <;> first
            | exact wpList_mono hq l _ _ h
            | exact Calls.mono h fun e w'' he => by cases e <;> first | exact wpList_mono hq l _ _ he | exact hq _ _ _ he | (obtain ⟨a0, w0, h0⟩ := he; exact ⟨a0, w0, hq _ _ _ h0⟩)
            | exact Rows.mono h fun _ _ he => wpList_mono hq l _ _ he
        | halt x w' => cases x <;> simp only [Oper.upon] at h ⊢ <;> first | exact hq _ _ _ h | exact h
      · exact .inr ⟨h1, a', w', hq _ _ _ h2⟩
    · rename_i hw
      rw [if_neg hw] at h
      exact wpList_mono hq l _ _ h

section ops
variable {P : Program} {ops : Array Oper} {st : St} {Q : Ex → St → Prop} {o : Oper} {rest : List Oper}

theorem wpo_nil (h : Q .normal st) : WpO P ops [] st Q := fun ι _ _ hs => ⟨ι, .normal, st, rfl, hs, Stp.refl hs.2.2.2, h⟩

theorem wpo_skip (hw : wantedA ops st.t o = some false) {st1 : St} (hp : putA st o.dst undefA = some st1) (h : WpO P ops rest st1 Q) : WpO P ops (o :: rest) st Q := fun ι a w hs => by
  unfold wpList
  rw [wantedA_ok hs.2.1 hw, if_neg (by simp)]
  have hm : st1.m = st.m := by
    unfold putA at hp
    split at hp
    · injection hp with hp; rw [← hp]
    · rw [cond_eq_ite] at hp
      split at hp
      · injection hp with hp; rw [← hp]
      · simp at hp
  have := h ι _ w (putA_ok hs (VR.undef ι) hp)
  rw [hm] at this
  exact this

theorem putA_m {st st1 : St} {dst : Option Tmp} {x : AV} (hp : putA st dst x = some st1) : st1.m = st.m := by
  unfold putA at hp
  split at hp
  · injection hp with hp; rw [← hp]
  · rw [cond_eq_ite] at hp
    split at hp
    · injection hp with hp; rw [← hp]
    · simp at hp

theorem StR.step {ι ι' : Inj} {a : Act} {w w' : World} {M' : Mem} (hs : StR ι st a w) (S : Stp ι st.m w ι' M' w') : StR ι' { st with m := M' } a w' :=
  ⟨hs.1, fun i => (hs.2.1 i).mono S.ext, hs.2.2.1, S.rel⟩

theorem wpo_op {T : Tab} (ok : T.Ok) (hw : wantedA ops st.t o = some true) {x : AV} {M' : Mem} (he : evalOp T st.t o st.m = some (x, M')) {st1 : St} (hp : putA { st with m := M' } o.dst x = some st1)
    (h : WpO T.P ops rest st1 Q) : WpO T.P ops (o :: rest) st Q := fun ι a w hs => by
  unfold wpList
  rw [wantedA_ok hs.2.1 hw, if_pos rfl]
  refine .inl ?_
  obtain ⟨ι', w', n, v, h1, h2, h3, h4⟩ := evalOp_ok ok hs.2.2.2 hs.2.1 he
  unfold Oper.wp
  rw [h1]
  have hs1 := putA_ok (hs.step h4) h3 hp
  have hm := putA_m hp
  have := h ι' _ w' hs1
  rw [hm] at this
  have hk : wpList T.P ops (Post ι st.m w Q) rest (a.put o.dst v) w' := wpList_mono (fun _ _ _ => Post.trans h4) _ _ _ this
  rcases h2 with rfl | ⟨rfl, rfl⟩
  · exact hk
  · exact hk

/-- What a call calls. -/
def calleeA (t : Tr AV) (o : Oper) : Option (FuncId × List AV) :=
  match o.op with
  | .call c =>
    match c.callee with
    | .value f =>
      match opnd t f with
      | .fn g first caps => some (g, first ++ c.args.toList.map (opnd t) ++ caps)
      | _ => none
    | _ => none
  | _ => none

theorem callee_wp {T : Tab} (ok : T.Ok) {fr : Tr AV} {a : Act} {M : Mem} {w : World} {ι : Inj} {o : Oper} (hf0 : FrR ι fr a) (R : Rel ι M w) {g : FuncId} {args : List AV}
    (hc : calleeA fr o = some (g, args)) {F : Func} (hg : T.fn.get g = some F) {R' : AV → Mem → Prop} (h : CallA T.P g args M R') {K : Act → World → Prop} {Q : Exit → Act → World → Prop}
    (hk : ∀ ι' v x M' w', VR ι' x v → Stp ι M w ι' M' w' → R' x M' → K (a.put o.dst v) w') : o.wp T.P a w K Q := by
  obtain ⟨dst, op, type, pos, after, guard⟩ := o
  unfold calleeA at hc
  simp only at hc
  split at hc
  · rename_i c
    split at hc
    · rename_i f hcal
      split at hc
      · rename_i g' first caps hf
        simp only [Option.some.injEq, Prod.mk.injEq] at hc
        obtain ⟨rfl, rfl⟩ := hc
        have hv := opnd_ok hf0 f
        rw [hf] at hv
        generalize hfv : a.eval f = fv at hv
        cases hv with
        | fn _ _ _ vf vc hvf hvc =>
          obtain ⟨hF, hname, hbody⟩ := ok.fn g' F hg
          have hargs : VRs ι (first ++ c.args.toList.map (opnd fr) ++ caps) ((vf ++ c.args.map a.eval) ++ vc).toList := by
            rw [Array.toList_append, Array.toList_append, Array.toList_map]
            exact (hvf.append (opnds_ok hf0 _)).append hvc
          have hrun : (execOp a.eval ⟨dst, .call c, type, pos, after, guard⟩).run T.P w = .ok (.enter g' ((vf ++ c.args.map a.eval) ++ vc)) w := by
            have hn : (F.name == "runtime.NumGoroutine") = false := by simpa using hname
            have hb : F.body.isNone = false := by cases hb : F.body <;> simp_all
            simp only [execOp, Sem.run_bind, resolve, hcal, hfv, Deferred.ofValue, Sem.run_pure, Result.andThen_ok, invoke, callFunc, run_program, hF, hn, hb, Bool.false_eq_true, if_false]
          unfold Oper.wp
          rw [hrun]
          simp only [Oper.upon]
          refine (h ι w _ hargs R).mono ?_
          rintro e w'' ⟨ι', v, x, M', rfl, h2, h3, h4⟩
          exact hk ι' v x M' w'' h2 h3 h4
      · simp at hc
    · simp at hc
  · simp at hc

theorem wpo_call {T : Tab} (ok : T.Ok) (hw : wantedA ops st.t o = some true) {g : FuncId} {args : List AV} (hc : calleeA st.t o = some (g, args)) {F : Func} (hg : T.fn.get g = some F)
    (h : CallA T.P g args st.m fun x M' => ∃ st1, putA { st with m := M' } o.dst x = some st1 ∧ WpO T.P ops rest st1 Q) : WpO T.P ops (o :: rest) st Q := fun ι a w hs => by
  unfold wpList
  rw [wantedA_ok hs.2.1 hw, if_pos rfl]
  refine .inl (callee_wp ok hs.2.1 hs.2.2.2 hc hg h ?_)
  rintro ι' v x M' w'' h2 h3 ⟨st1, h4, h5⟩
  have hs1 := putA_ok (hs.step h3) h2 h4
  have hm := putA_m h4
  have := h5 ι' _ w'' hs1
  rw [hm] at this
  exact wpList_mono (fun _ _ _ => Post.trans h3) _ _ _ this

theorem wpa_region {id : Nat} (h : WpO P ops ops.toList st Q) : WpA P (.region id ops false) st Q := fun ι a w hs => wp_region_list (h ι a w hs)

end ops

/-! ## Calls -/

def resA (T : Tab) (t : Tr AV) (M : Mem) : List ResultVar → Option (List AV)
  | [] => some []
  | .tmp i :: rs => (resA T t M rs).map ((t.get i).getD undefA :: ·)
  | .cell i ty :: rs =>
    match (t.get i).getD undefA with
    | .ptr b o => match evLoad T ty (.ptr b o) M, resA T t M rs with
      | some x, some xs => some (x :: xs)
      | _, _ => none
    | _ => none

def resultA (T : Tab) (F : Func) (st : St) : Option AV :=
  match resA T st.t st.m F.results.toList with
  | some [x] => some x
  | some xs => some (.tup xs)
  | none => none

def enterA (F : Func) (args : List AV) (M : Mem) : St := { n := args.length + (F.ntmps - args.length), t := Tr.ofList 0 args, m := M }

theorem ofList_get {α : Type} : ∀ (l : List α) (k i : Nat), (Tr.ofList k l).get i = if i < k then none else l[i - k]?
  | [], k, i => by simp [Tr.ofList, Tr.get]
  | x :: l, k, i => by
    simp only [Tr.ofList]
    rw [Tr.get_set, ofList_get l (k + 1) i]
    by_cases h1 : i = k
    · subst h1; simp
    · rw [if_neg h1]
      by_cases h2 : i < k
      · rw [if_pos (by omega), if_pos h2]
      · rw [if_neg (by omega), if_neg h2, show i - k = (i - (k + 1)) + 1 by omega]
        simp

def resOne (tmps : Array Value) : ResultVar → Sem Value
  | .tmp t => pure (tmps.getD t undef)
  | .cell a t => do loadVar t (← asAddr (tmps.getD a undef))

theorem resA_ok {T : Tab} (ok : T.Ok) {ι : Inj} {st : St} {a : Act} {w : World} (hs : StR ι st a w) : ∀ (rs : List ResultVar) (xs : List AV), resA T st.t st.m rs = some xs →
    ∃ vs, (rs.mapM (resOne a.tmps)).run T.P w = .ok vs w ∧ VRs ι xs vs
  | [], xs, h => by
    simp only [resA, Option.some.injEq] at h
    subst h
    exact ⟨[], by simp, .nil⟩
  | .tmp i :: rs, xs, h => by
    simp only [resA] at h
    obtain ⟨ys, hy, rfl⟩ := Option.map_eq_some_iff.1 h
    obtain ⟨vs, h1, h2⟩ := resA_ok ok hs rs ys hy
    refine ⟨a.tmps.getD i undef :: vs, ?_, .cons _ _ _ _ (hs.2.1 i) h2⟩
    rw [List.mapM_cons]
    simp only [resOne, Sem.run_bind, Sem.run_pure, Result.andThen_ok, h1]
  | .cell i ty :: rs, xs, h => by
    simp only [resA] at h
    have hv := hs.2.1 i
    split at h
    · rename_i b o hb
      rw [hb] at hv
      split at h
      · rename_i x ys hx hy
        injection h with h; subst h
        obtain ⟨vs, h1, h2⟩ := resA_ok ok hs rs ys hy
        obtain ⟨ι', w', v, g1, g2, g3⟩ := evLoad_ok ok hs.2.2.2 hv hx
        generalize hav : a.tmps.getD i undef = av at hv g1
        cases hv with
        | ptr _ _ l hl =>
          unfold evLoad at hx
          simp only at hx
          split at hx
          · rename_i ti ht
            cases hagg : ti.isAgg with
            | true =>
              rw [hagg] at hx
              obtain ⟨zs, hz, rfl⟩ := Option.map_eq_some_iff.1 hx
              obtain ⟨us, k1, k2, k3⟩ := hs.2.2.2.loadCells (P := T.P) hz hl
              refine ⟨.agg us.toArray :: vs, ?_, .cons _ _ _ _ (.agg _ _ k1) h2⟩
              rw [List.mapM_cons]
              simp only [resOne, Sem.run_bind, hav, asAddr, Sem.run_pure, Result.andThen_ok, loadVar, ty_isAgg ok ht, hagg, if_true, ty_size ok ht, k3, h1]
            | false =>
              rw [hagg] at hx
              obtain ⟨u, k1, k2⟩ := hs.2.2.2.cell hx hl
              refine ⟨u :: vs, ?_, .cons _ _ _ _ k2 h2⟩
              rw [List.mapM_cons]
              simp only [resOne, Sem.run_bind, hav, asAddr, Sem.run_pure, Result.andThen_ok, loadVar, ty_isAgg ok ht, hagg, Bool.false_eq_true, if_false, run_load, k1, h1]
          · simp at hx
      · simp at h
    · simp at h

theorem resultA_ok {T : Tab} (ok : T.Ok) {F : Func} {ι : Inj} {st : St} {a : Act} {w : World} (hs : StR ι st a w) {x : AV} (h : resultA T F st = some x) :
    ∃ v, (results F a.tmps).run T.P w = .ok v w ∧ VR ι x v := by
  have hcl : ∃ xs, resA T st.t st.m F.results.toList = some xs ∧ (match xs with | [x] => some x | xs => some (.tup xs)) = some x := by
    unfold resultA at h
    split at h
    · rename_i y hy
      exact ⟨[y], hy, h⟩
    · rename_i xs hn hxs
      refine ⟨xs, hxs, ?_⟩
      split
      · rename_i y; exact absurd rfl (hn y)
      · exact h
    · simp at h
  obtain ⟨xs, hxs, hx⟩ := hcl
  obtain ⟨vs, h1, h2⟩ := resA_ok ok hs _ _ hxs
  have hrun : (F.results.mapM (resOne a.tmps)).run T.P w = .ok vs.toArray w := by
    rw [Array.mapM_eq_mapM_toList]
    simp only [Sem.run_map]
    rw [h1]
    rfl
  have hres : results F a.tmps = (do
      let vs ← F.results.mapM (resOne a.tmps)
      pure (if h : vs.size = 1 then vs[0] else .tuple vs)) := by
    unfold results
    rfl
  rw [hres]
  have hlen := h2.length
  split at hx
  · rename_i y
    injection hx with hx; subst hx
    obtain ⟨v, rfl, hv⟩ := h2.one
    refine ⟨v, ?_, hv⟩
    rw [Sem.run_bind, hrun]
    simp
  · rename_i hn
    injection hx with hx; subst hx
    refine ⟨.tuple vs.toArray, ?_, .tup _ _ h2⟩
    rw [Sem.run_bind, hrun]
    simp only [Result.andThen_ok, List.size_toArray, Sem.run_pure]
    rw [dif_neg]
    intro h1
    have : xs.length = 1 := by omega
    obtain ⟨y, hy⟩ := List.length_eq_one_iff.1 this
    exact hn y hy

theorem calla_body {T : Tab} (ok : T.Ok) {f : FuncId} {F : Func} {c : Code} (hf : T.fn.get f = some F) (hb : F.body = some c) {args : List AV} {M : Mem} {Q : AV → Mem → Prop}
    (h : WpA T.P c (enterA F args M) fun ex st => (ex = .normal ∨ ex = .ret) ∧ ∃ x, resultA T F st = some x ∧ Q x st.m) : CallA T.P f args M Q := by
  intro ι w vs hv R
  have hlen := hv.length
  simp only [Array.length_toList] at hlen
  have hs : StR ι (enterA F args M) { tmps := vs ++ Array.replicate (F.ntmps - vs.size) undef, defers := [] } w := by
    refine ⟨?_, fun i => ?_, rfl, R⟩
    · simp [enterA, hlen]
    · simp only [enterA]
      rw [ofList_get, if_neg (by omega), Nat.sub_zero]
      by_cases hi : i < args.length
      · obtain ⟨v, h1, h2⟩ := hv.get i args[i] (by simp [hi])
        have : (vs ++ Array.replicate (F.ntmps - vs.size) undef).getD i undef = v := by
          rw [Array.getD_eq_getD_getElem?, Array.getElem?_append_left (by omega)]
          rw [Array.getElem?_toList] at h1
          rw [h1]; rfl
        rw [this]
        simpa [hi] using h2
      · have h1 : args[i]? = none := List.getElem?_eq_none (by omega)
        rw [h1]
        have : (vs ++ Array.replicate (F.ntmps - vs.size) undef).getD i undef = undef := by
          rw [Array.getD_eq_getD_getElem?, Array.getElem?_append_right (by omega), Array.getElem?_replicate]
          split <;> rfl
        rw [this]
        exact VR.undef ι
  refine calls_of_wp (ok.fn f F hf).1 hb (wp_mono (h ι _ w hs) ?_)
  rintro e a' w' ⟨ι', ex, st', rfl, h2, h3, hex, x, hx, hq⟩
  obtain ⟨v, hv1, hv2⟩ := resultA_ok ok h2 hx
  rcases hex with rfl | rfl
  · exact ⟨h2.2.2.1, v, hv1, ι', v, x, st'.m, rfl, hv2, h3, hq⟩
  · exact ⟨h2.2.2.1, v, hv1, ι', v, x, st'.m, rfl, hv2, h3, hq⟩

end Go.AM
