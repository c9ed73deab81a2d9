import Derived.Test.YtfkkmhadipfobaaGreatA37
import Derived.Test.YtfkkmhadipfobaaGreatB3
set_option linter.unusedSimpArgs false
set_option linter.unusedVariables false
set_option linter.unusedSectionVars false
noncomputable section
/- The abstract machine, part 41: a loop over a map, reckoned out, in whichever order its entries come. -/
namespace Go.AM
open Go.ChangeMaps

/-! ## Fewer rows -/

structure Sub (M' M : Mem) : Prop where
  next : M'.next = M.next
  rows : ∀ b r, M'.get b = some r → M.get b = some r

theorem Sub.refl (M : Mem) : Sub M M := ⟨rfl, fun _ _ h => h⟩
theorem Sub.trans {A B C : Mem} (h : Sub A B) (k : Sub B C) : Sub A C := ⟨h.next.trans k.next, fun b r e => k.rows b r (h.rows b r e)⟩

theorem CallA.sub {P : Program} {f : FuncId} {args : List AV} {M : Mem} {Q Q' : AV → Mem → Prop} (h : CallA P f args M Q) (hq : ∀ x N, Q x N → ∃ N', Sub N' N ∧ Q' x N') : CallA P f args M Q' :=
  fun ι w vs hv R => (h ι w vs hv R).mono fun _ _ ⟨ι', v, x, M', h1, h2, h3, h4⟩ => by
    obtain ⟨N', hs, hq'⟩ := hq x M' h4
    exact ⟨ι', v, x, N', h1, h2, h3.forget (Nat.le_of_eq hs.next.symm) hs.rows, hq'⟩

def sameEnts : List (AV × AV) → List (AV × AV) → Bool
  | [], [] => true
  | a :: as, b :: bs => sameAV a.1 b.1 && (sameAV a.2 b.2 && sameEnts as bs)
  | _, _ => false
theorem sameEnts_eq : ∀ {a b : List (AV × AV)}, sameEnts a b = true → a = b
  | [], [], _ => rfl
  | a :: as, b :: bs, h => by
    simp only [sameEnts, Bool.and_eq_true] at h
    have h1 := sameAV_eq _ _ h.1
    have h2 := sameAV_eq _ _ h.2.1
    have h3 := sameEnts_eq h.2.2
    obtain ⟨a1, a2⟩ := a
    obtain ⟨b1, b2⟩ := b
    simp only at h1 h2
    subst h1 h2 h3
    rfl
  | [], _ :: _, h => by simp [sameEnts] at h
  | _ :: _, [], h => by simp [sameEnts] at h

def sameRow : Row → Row → Bool
  | .cells a x, .cells b y => (x == y) && sameAVs a b
  | .map a, .map b => sameEnts a b
  | _, _ => false
theorem sameRow_eq : ∀ {a b : Row}, sameRow a b = true → a = b
  | .cells a x, .cells b y, h => by
    simp only [sameRow, Bool.and_eq_true, beq_iff_eq] at h
    rw [h.1, sameAVs_eq _ _ h.2]
  | .map a, .map b, h => by rw [sameEnts_eq h]
  | .cells _ _, .map _, h => by cases h
  | .cells _ _, .sit _ _, h => by cases h
  | .map _, .cells _ _, h => by cases h
  | .map _, .sit _ _, h => by cases h
  | .sit _ _, .cells _ _, h => by cases h
  | .sit _ _, .map _, h => by cases h
  | .sit _ _, .sit _ _, h => by cases h

def meetO : Option Row → Option Row → Option Row
  | some a, some b => cond (sameRow a b) (some a) none
  | _, _ => none
theorem meetO_ok {a b : Option Row} {r : Row} (h : meetO a b = some r) : a = some r ∧ b = some r := by
  unfold meetO at h
  split at h
  · rename_i x y
    rw [cond_eq_ite] at h
    split at h
    · rename_i hs
      injection h with h
      rw [← sameRow_eq hs, h]
      exact ⟨rfl, rfl⟩
    · cases h
  · cases h

def meetT : Tr Row → Tr Row → Tr Row
  | .n l x r, .n l' x' r' => .n (meetT l l') (meetO x x') (meetT r r')
  | _, _ => .e
theorem meetT_ok : ∀ {a b : Tr Row} {i : Nat} {r : Row}, (meetT a b).get i = some r → a.get i = some r ∧ b.get i = some r
  | .e, b, i, r, h => by simp [meetT, Tr.get_e] at h
  | .n _ _ _, .e, i, r, h => by simp [meetT, Tr.get_e] at h
  | .n l x y, .n l' x' y', i, r, h => by
    simp only [meetT] at h
    rw [Tr.get_n] at h
    rw [Tr.get_n, Tr.get_n]
    split at h
    · rename_i h0
      rw [if_pos h0, if_pos h0]
      exact meetO_ok h
    · rename_i h0
      rw [if_neg h0, if_neg h0]
      split at h
      · rename_i h1
        rw [if_pos h1, if_pos h1]
        exact meetT_ok h
      · rename_i h1
        rw [if_neg h1, if_neg h1]
        exact meetT_ok h

def meetM (A B : Mem) : Option Mem := cond (Nat.beq A.next B.next) (some ⟨A.next, meetT A.rows B.rows⟩) none
theorem meetM_ok {A B C : Mem} (h : meetM A B = some C) : Sub C A ∧ Sub C B := by
  unfold meetM at h
  rw [cond_eq_ite] at h
  split at h
  · rename_i hn
    injection h with h; subst h
    have hn : A.next = B.next := by simpa using hn
    exact ⟨⟨rfl, fun b r h => (meetT_ok h).1⟩, ⟨hn, fun b r h => (meetT_ok h).2⟩⟩
  · cases h

/-! ## The rule, frames and all -/

theorem WpO.app {T : Tab} {ops : Array Oper} {R : Exit → Act → World → Prop} {tl l : List Oper} {st s : St} (h : ∀ Q : Ex → St → Prop, Q .normal s → WpO T.P ops l st Q) {ι : Inj} {a : Act} {w : World} (hs : StR ι st a w)
    (hk : ∀ ι' a' w', StR ι' s a' w' → Stp ι st.m w ι' s.m w' → wpList T.P ops R tl a' w') : wpList T.P ops R (l ++ tl) a w := by
  refine wpList_app ?_ ?_ _ _ _ (h (fun ex s' => ex = .normal ∧ s' = s) ⟨rfl, rfl⟩ ι a w hs)
  · rintro a' w' ⟨ι', ex, st', he, hs', S, rfl, rfl⟩
    exact hk ι' a' w' hs' S
  · rintro e a' w' hne ⟨ι', ex, st', he, hs', S, rfl, rfl⟩
    exact absurd he hne

def bumpM (M : Mem) : Mem := { M with next := M.next + 1 }
def itSt (p : ML) (s : St) (eb : Option Nat × List (AV × AV)) : St := { n := s.n, t := s.t.set p.it (some (.ptr s.m.next 0)), m := bumpM (hideM s.m eb.1) }
def endSt (p : ML) (eb : Option Nat × List (AV × AV)) (s : St) : St := { n := s.n, t := (s.t.set p.ntm (some (.tup [.val (.bool false)]))).set p.more (some (.val (.bool false))), m := showM s.m eb }
def entSt (p : ML) (k v : AV) (s : St) : St := { n := s.n, t := ((s.t.set p.ntm (some (.tup [.val (.bool true), k, v]))).set p.more (some (.val (.bool true)))).set p.pair (some (.tup [k, v])), m := s.m }
def outSt (eb : Option Nat × List (AV × AV)) (s : St) : St := { n := s.n, t := s.t, m := showM s.m eb }

/-- What is to be shown of the rounds. -/
def MLQ (P : Program) (p : ML) (eb : Option Nat × List (AV × AV)) (nb : Nat) (Q : Ex → St → Prop) : Nat → List (AV × AV) → St → Prop
  | 0, _, _ => False
  | k + 1, rem, s => (rem = [] → Q .normal (endSt p eb s)) ∧ ∀ i kk v, rem[i]? = some (kk, v) → ∃ s2, (∀ Q : Ex → St → Prop, Q .normal s2 → WpO P p.eops p.rest (entSt p kk v s) Q) ∧ s2.n = s.n ∧
      WpA P p.body s2 fun ex s3 => s3.n = s.n ∧ (s3.t.get p.it = some (.ptr nb 0)) ∧ match ex with
        | .normal => MLQ P p eb nb Q k (rem.eraseIdx i) s3
        | .exit j => if j = p.nx then MLQ P p eb nb Q k (rem.eraseIdx i) s3 else if j = p.out then Q .normal (outSt eb s3) else Q (.exit j) (outSt eb s3)
        | .goto l => Q (.goto l) (outSt eb s3)
        | .ret => Q .ret (outSt eb s3)

theorem wpa_mlx {T : Tab} (ok : T.Ok) {c : Code} {p : ML} (hp : mlParts c = some p) {st s : St} (b1 : p.it < s.n) (b2 : p.ntm < s.n) (b3 : p.more < s.n) (b4 : p.pair < s.n)
    {te : TI} (hxt : T.ty.get p.xt = some te) {kt vt : TypeId} (hmp : te.k = .mp kt vt)
    (hpre : ∀ Q : Ex → St → Prop, Q .normal s → WpO T.P p.ops p.pre st Q) {eb : Option Nat × List (AV × AV)} (heb : entsB s.m (opnd s.t p.xo) = some eb)
    {Q : Ex → St → Prop} {K : Nat} (hgo : MLQ T.P p eb s.m.next Q K eb.2 (itSt p s eb)) : WpA T.P c st Q := by
  obtain ⟨⟨id1, id2, id3, rfl⟩, hops, hro, hsops, hn1, hn2, heops, he1, d1, d2, d3⟩ := mlParts_eq hp
  intro ι a w hs
  refine wp_seq (wp_region_list ?_)
  rw [hops]
  refine WpO.app hpre hs (fun ι1 a1 w1 hs1 S1 => ?_)
  obtain ⟨hr1, hr2, hr3⟩ := isRange_eq hro
  obtain ⟨p1, p2, p3⟩ := isNext_eq hn1
  obtain ⟨q1, q2, q3⟩ := isExtr_eq hn2
  obtain ⟨g1, g2, g3⟩ := isEntry_eq he1
  obtain ⟨mb, es⟩ := eb
  have R1 : Rel ι1 s.m w1 := hs1.2.2.2
  have Rh : Rel ι1 (hideM s.m mb) w1 := by
    cases mb with
    | none => exact R1
    | some b =>
      refine R1.forget (Nat.le_refl _) fun c r h => ?_
      have h : (s.m.kill b).get c = some r := h
      rw [Mem.get_kill] at h
      split at h
      · cases h
      · exact h
  have hnx : (hideM s.m mb).next = s.m.next := by cases mb <;> rfl
  have hx := opnd_ok hs1.2.1 p.xo
  have hr : ¬ LvAt ι1 (hideM s.m mb) w1.heap.size := fun h => absurd (h.lt Rh) (Nat.lt_irrefl _)
  obtain ⟨lb, left, o, hrun, hI, hE, hlb⟩ : ∃ (lb : Option Nat) (left : List MapEntry) (o : Obj), (execOp a1.eval p.ro).run T.P w1 = .ok (.value (.pointer (some ⟨w1.heap.size, 0, none⟩))) (w1.alloc o) ∧ ItR (w1.alloc o) w1.heap.size lb left ∧ EntR ι1 es left ∧ ∀ b, lb = some b → b < w1.heap.size ∧ ¬ LvAt ι1 (hideM s.m mb) b := by
    unfold entsB at heb
    split at heb
    · rename_i hop
      injection heb with heb
      injection heb with e1 e2
      subst e1 e2
      rw [hop] at hx
      generalize hev : a1.eval p.xo = v at hx
      cases hx
      refine ⟨none, [], .mapIter none 0 #[] 0, ?_, ⟨heap_alloc_new _ _, rfl⟩, .nil, fun b h => by cases h⟩
      unfold execOp
      simp only [hr1, hev, Instr.range, Sem.run_bind, ty_mp ok hxt hmp, Result.andThen_ok, Sem.run_pure]
      simp
    · rename_i b hop
      split at heb
      · rename_i es' hg
        injection heb with heb
        injection heb with e1 e2
        subst e1 e2
        rw [hop] at hx
        generalize hev : a1.eval p.xo = v at hx
        cases hx with
        | map _ l hl =>
          obtain ⟨ms, clock, hob, he, hbo⟩ := R1.obj hg hl
          have hlt : l.blk < w1.heap.size := (Array.getElem?_eq_some_iff.1 hob).1
          refine ⟨some l.blk, ms.toList, .mapIter (some l.blk) clock #[] clock, ?_, ⟨ms, clock, clock, #[], clock, heap_alloc_new _ _, by rw [heap_alloc_old _ _ hlt]; exact hob, hbo.1, Nat.le_refl _, Nat.le_refl _, hbo.2, by unfold leftOf; rw [Array.toList_filter]; exact (List.filter_eq_self.2 (fun _ _ => by simp)).symm⟩, he, fun b' h => ?_⟩
          · unfold execOp
            simp only [hr1, hev, Instr.range, Sem.run_bind, ty_mp ok hxt hmp, run_getObj_map hob, Result.andThen_ok, Sem.run_pure]
            simp
          · injection h with h; subst h
            refine ⟨hlt, fun ⟨c, r, l2, k1, k2, k3⟩ => ?_⟩
            have k1 : (s.m.kill b).get c = some r := k1
            rw [Mem.get_kill] at k1
            split at k1
            · cases k1
            · rename_i hcb
              exact hcb (R1.inj c b r _ l2 l k1 hg k2 hl k3)
      · cases heb
    · cases heb
  unfold wpList
  rw [if_pos (by simp [Region.wanted, hr3])]
  refine .inl ?_
  unfold Oper.wp
  rw [hrun, Oper.upon_value, hr2]
  show Code.wp T.P (.block p.out _) (Post ι st.m w Q) (a1.put (some p.it) _) (w1.alloc o)
  have Sb0 : Stp ι1 (hideM s.m mb) w1 ι1 (hideM s.m mb) (w1.alloc o) := (Stp.refl Rh).side (r := w1.heap.size) (Nat.le_refl _) hr (by show _ ≤ (w1.heap.push o).size; simp) (fun k hk _ => heap_alloc_old _ _ hk) rfl rfl rfl
  -- the iterator's block, without a row
  have hext : Ext ι1 (fun b => if b = s.m.next then some ⟨w1.heap.size, 0, 0⟩ else ι1 b) := fun b l h => by
    have := R1.dom b l h
    have hne : ¬ (b = s.m.next) := by omega
    simp [hne, h]
  have Sb : Stp ι1 (hideM s.m mb) w1 (fun b => if b = s.m.next then some ⟨w1.heap.size, 0, 0⟩ else ι1 b) (bumpM (hideM s.m mb)) (w1.alloc o) := by
    have low : ∀ b r, (hideM s.m mb).get b = some r → ∀ l, (if b = s.m.next then some (⟨w1.heap.size, 0, 0⟩ : Loc) else ι1 b) = some l → ι1 b = some l := fun b r hb l hl => by
      obtain ⟨l', h1, _⟩ := Rh.live b r hb
      have := Rh.dom b l' h1
      rw [hnx] at this
      rw [if_neg (by omega)] at hl
      exact hl
    refine ⟨⟨fun b l h => ?_, fun b r hb => ?_, fun b b' r r' l l' g1 g2 h1 h2 he => ?_, fun b l h => ?_⟩, hext, Nat.le_succ _, fun b l h => ?_, Sb0.size, Sb0.frame, fun k ⟨b, r, l, k1, k2, k3, k4⟩ => Sb0.evo k ⟨b, r, l, k1, k2, low b r k1 l k3, k4⟩, fun k ⟨b, r, l, k1, k3, k4⟩ => Sb0.evl k ⟨b, r, l, k1, low b r k1 l k3, k4⟩, rfl, rfl, rfl⟩
    · show b < (hideM s.m mb).next + 1
      rw [hnx]
      by_cases hb : b = s.m.next
      · omega
      · simp only [hb, if_false] at h
        have := R1.dom b l h
        omega
    · obtain ⟨l, h1, h2⟩ := Sb0.rel.live b r hb
      exact ⟨l, hext b l h1, h2.mono hext⟩
    · exact Sb0.rel.inj b b' r r' l l' g1 g2 (low b r g1 l h1) (low b' r' g2 l' h2) he
    · by_cases hb : b = s.m.next
      · simp only [hb, if_true, Option.some.injEq] at h; rw [← h]
      · simp only [hb, if_false] at h; exact R1.bas b l h
    · by_cases hb : b = s.m.next
      · right; rw [hnx]; omega
      · simp only [hb, if_false] at h; exact .inl h
  have fin : ∀ (ι' : Inj) (s' : St) (a' : Act) (w' : World) (ex : Ex), StR ι' s' a' w' → Stp ι1 (hideM s.m mb) w1 ι' s'.m w' → Q ex { n := s'.n, t := s'.t, m := showM s'.m (mb, es) } → Post ι st.m w Q ex.c a' w' := fun ι' s' a' w' ex hs' S' hq => by
    have S2 := showM_over R1 heb S'
    exact ⟨ι', ex, ⟨s'.n, s'.t, showM s'.m (mb, es)⟩, rfl, ⟨hs'.1, hs'.2.1, hs'.2.2.1, S2.rel⟩, S1.trans S2, hq⟩
  refine wp_block (wp_loop_rounds K ?_)
  have key : ∀ (n : Nat) (rem : List (AV × AV)) (left : List MapEntry) (s' : St) (ι' : Inj) (a' : Act) (w' : World), StR ι' s' a' w' → s'.n = s.n →
      s'.t.get p.it = some (.ptr s.m.next 0) → ι' s.m.next = some ⟨w1.heap.size, 0, 0⟩ → MLQ T.P p (mb, es) s.m.next Q n rem s' → Stp ι1 (hideM s.m mb) w1 ι' s'.m w' → ItR w' w1.heap.size lb left → EntR ι' rem left →
      Code.rounds T.P (.seq (.region id2 p.sops false) (.seq (.cond (.tmp p.more) .skip (.exit p.out)) (.block p.nx (.seq (.region id3 p.eops false) p.body)))) (Exit.inBlock p.out (Post ι st.m w Q)) n a' w' := by
    intro n
    induction n with
    | zero => intro rem left s' ι' a' w' hs' hn' hitA hιn hQ; exact hQ.elim
    | succ n ih =>
      intro rem left s' ι' a' w' hs' hn' hitA hιn hQ S' hI' hE'
      have hitv : a'.tmps.getD p.it undef = .pointer (some ⟨w1.heap.size, 0, none⟩) := by
        have := hs'.2.1 p.it
        rw [hitA] at this
        generalize a'.tmps.getD p.it undef = u at this
        cases this with
        | ptr _ _ l hl =>
          rw [hιn] at hl
          injection hl with hl
          subst hl
          rfl
      show Code.wp T.P _ _ a' w'
      refine wp_seq (wp_region_list ?_)
      rw [hsops]
      have hsz : a'.tmps.size = s.n := hs'.1.trans hn'
      have hev1 : a'.eval (.tmp p.it) = .pointer (some ⟨w1.heap.size, 0, none⟩) := hitv
      have hlv : ¬ LvAt ι' s'.m w1.heap.size := fun h => by
        rcases S'.evl _ h with h1 | h1
        · obtain ⟨b, row, l, k1, k2, k3⟩ := h
          obtain ⟨l', k4, k5⟩ := S'.rel.live b row k1
          rw [k2] at k4; injection k4 with k4; subst k4
          have hh : w'.heap[w1.heap.size]? = some (.mapIter none 0 #[] 0) ∨ ∃ m si se la, w'.heap[w1.heap.size]? = some (.mapIter m si se la) := by
            cases lb with
            | none => exact .inl hI'.1
            | some lb => obtain ⟨_, _, _, _, _, k6, _⟩ := hI'; exact .inr ⟨_, _, _, _, k6⟩
          rw [k3] at k5
          rcases hh with hh | ⟨_, _, _, _, hh⟩ <;> rw [hh] at k5 <;> cases row <;> exact k5.elim
        · exact hr h1
      unfold wpList
      rw [if_pos (by simp [Region.wanted, p3])]
      refine .inl ?_
      unfold Oper.wp
      rcases hI'.next (P := T.P) p.n1.type with ⟨hl, hrn⟩ | ⟨i, e, w3, hle, hrn, hren, hI3, hsz3, hh3, ho3, ht3, hu3⟩
      · -- nothing is left
        subst hl
        cases hE'
        have hrun1 : (execOp a'.eval p.n1).run T.P w' = .ok (.value (.tuple #[.bool false])) w' := by
          unfold execOp
          simp only [p1, hev1, Sem.run_bind, hrn, Result.andThen_ok, Sem.run_pure]
        rw [hrun1, Oper.upon_value, p2]
        show wpList T.P p.sops _ [p.n2] (a'.put (some p.ntm) (.tuple #[.bool false])) w'
        have hs2 := hs'.put (d := p.ntm) (x := .tup [.val (.bool false)]) (.tup [.val (.bool false)] #[.bool false] (.cons _ _ _ _ (.val _ rfl) .nil)) (by rw [hn']; exact b2)
        unfold wpList
        rw [if_pos (by simp [Region.wanted, q3])]
        refine .inl ?_
        unfold Oper.wp
        have hev2 : (a'.put (some p.ntm) (.tuple #[.bool false])).eval (.tmp p.ntm) = .tuple #[.bool false] := put_self (by rw [hsz]; exact b2)
        have hrun2 : (execOp (a'.put (some p.ntm) (.tuple #[.bool false])).eval p.n2).run T.P w' = .ok (.value (.bool false)) w' := by
          unfold execOp
          simp only [q1, hev2]
          rfl
        rw [hrun2, Oper.upon_value, q2]
        have hs3 := hs2.put (d := p.more) (x := .val (.bool false)) (.val _ rfl) (by show p.more < s'.n; rw [hn']; exact b3)
        show Code.wp T.P _ _ ((a'.put (some p.ntm) (.tuple #[.bool false])).put (some p.more) (.bool false)) w'
        have hev3 : ((a'.put (some p.ntm) (.tuple #[.bool false])).put (some p.more) (.bool false)).eval (.tmp p.more) = .bool false := put_self (by rw [put_size, hsz]; exact b3)
        refine wp_seq (wp_cond hev3 (wp_exit ?_))
        show Exit.inBlock p.out (Post ι st.m w Q) (.exit p.out) _ _
        simp only [Exit.inBlock, if_true]
        exact fin ι' _ _ w' .normal hs3 S' (hQ.1 rfl)
      · -- an entry
        obtain ⟨k, v, hki, hk, hv⟩ := hE'.get hle
        have hrun1 : (execOp a'.eval p.n1).run T.P w' = .ok (.value (.tuple #[.bool true, e.key, e.val])) w3 := by
          unfold execOp
          simp only [p1, hev1, Sem.run_bind, hrn, Result.andThen_ok, Sem.run_pure]
        rw [hrun1, Oper.upon_value, p2]
        show wpList T.P p.sops _ [p.n2] (a'.put (some p.ntm) (.tuple #[.bool true, e.key, e.val])) w3
        have S3 : Stp ι1 (hideM s.m mb) w1 ι' s'.m w3 := S'.side (r := w1.heap.size) (Nat.le_refl _) hlv (by rw [hsz3]; exact Nat.le_refl _) (fun k _ hk => hh3 k hk) ho3 ht3 hu3
        have hsA : StR ι' s' a' w3 := ⟨hs'.1, hs'.2.1, hs'.2.2.1, S3.rel⟩
        have hs2 := hsA.put (d := p.ntm) (x := .tup [.val (.bool true), k, v]) (.tup [.val (.bool true), k, v] #[.bool true, e.key, e.val] (.cons _ _ _ _ (.val _ rfl) (.cons _ _ _ _ hk (.cons _ _ _ _ hv .nil)))) (by rw [hn']; exact b2)
        unfold wpList
        rw [if_pos (by simp [Region.wanted, q3])]
        refine .inl ?_
        unfold Oper.wp
        have hev2 : (a'.put (some p.ntm) (.tuple #[.bool true, e.key, e.val])).eval (.tmp p.ntm) = .tuple #[.bool true, e.key, e.val] := put_self (by rw [hsz]; exact b2)
        have hrun2 : (execOp (a'.put (some p.ntm) (.tuple #[.bool true, e.key, e.val])).eval p.n2).run T.P w3 = .ok (.value (.bool true)) w3 := by
          unfold execOp
          simp only [q1, hev2]
          rfl
        rw [hrun2, Oper.upon_value, q2]
        have hs3 := hs2.put (d := p.more) (x := .val (.bool true)) (.val _ rfl) (by show p.more < s'.n; rw [hn']; exact b3)
        show Code.wp T.P _ _ ((a'.put (some p.ntm) (.tuple #[.bool true, e.key, e.val])).put (some p.more) (.bool true)) w3
        have hev3 : ((a'.put (some p.ntm) (.tuple #[.bool true, e.key, e.val])).put (some p.more) (.bool true)).eval (.tmp p.more) = .bool true := put_self (by rw [put_size, hsz]; exact b3)
        refine wp_seq (wp_cond hev3 (wp_skip ?_))
        show Code.wp T.P (.block p.nx _) _ ((a'.put (some p.ntm) (.tuple #[.bool true, e.key, e.val])).put (some p.more) (.bool true)) w3
        have hit3 : ((a'.put (some p.ntm) (.tuple #[.bool true, e.key, e.val])).put (some p.more) (.bool true)).tmps.getD p.it undef = .pointer (some ⟨w1.heap.size, 0, none⟩) := by
          rw [put_ne d2, put_ne d1]; exact hitv
        generalize (a'.put (some p.ntm) (.tuple #[.bool true, e.key, e.val])).put (some p.more) (.bool true) = a3 at hs3 hit3 ⊢
        refine wp_block (wp_seq (wp_region_list ?_))
        rw [heops]
        unfold wpList
        rw [if_pos (by simp [Region.wanted, g3])]
        refine .inl ?_
        unfold Oper.wp
        have hev4 : a3.eval (.tmp p.it) = .pointer (some ⟨w1.heap.size, 0, none⟩) := hit3
        have hrun3 : (execOp a3.eval p.e1).run T.P w3 = .ok (.value (.tuple #[e.key, e.val])) w3 := by
          unfold execOp
          simp only [g1, hev4, Sem.run_bind, hren, Result.andThen_ok, Sem.run_pure]
        rw [hrun3, Oper.upon_value, g2]
        show wpList T.P p.eops _ p.rest (a3.put (some p.pair) (.tuple #[e.key, e.val])) w3
        have hs4 := hs3.put (d := p.pair) (x := .tup [k, v]) (.tup [k, v] #[e.key, e.val] (.cons _ _ _ _ hk (.cons _ _ _ _ hv .nil))) (by show p.pair < s'.n; rw [hn']; exact b4)
        generalize a3.put (some p.pair) (.tuple #[e.key, e.val]) = a4 at hs4 ⊢
        obtain ⟨s2, hrest, hn2, hbody⟩ := hQ.2 i k v hki
        rw [← List.append_nil p.rest]
        refine WpO.app hrest (st := entSt p k v s') hs4 (fun ι2 a2 w2 hs2' S2 => ?_)
        show Code.wp T.P p.body _ a2 w2
        refine wp_mono (hbody ι2 a2 w2 hs2') ?_
        rintro e' a5 w5 ⟨ι5, ex, s5, rfl, hs5, S5, hn5, hit5, hQ5⟩
        have S25 : Stp ι' s'.m w3 ι5 s5.m w5 := S2.trans S5
        have S15 := S3.trans S25
        have hn5' : s5.n = s.n := hn5.trans hn'
        have hkeep : ∀ q, q < w3.heap.size → ¬ LvAt ι' s'.m q → w5.heap[q]? = w3.heap[q]? := fun q hq hnl => S25.frame q hq fun ⟨c, r, l, k1, _, k3, k4⟩ => hnl ⟨c, r, l, k1, k3, k4⟩
        have hI5 : ItR w5 w1.heap.size lb (left.eraseIdx i) := hI3.kept (hkeep _ (by
            rcases lb with _ | lb
            · exact (Array.getElem?_eq_some_iff.1 hI3.1).1
            · obtain ⟨_, _, _, _, _, k6, _⟩ := hI3; exact (Array.getElem?_eq_some_iff.1 k6).1) hlv) (fun b hb' => by
          obtain ⟨h1, h2⟩ := hlb b hb'
          refine hkeep b (by have := S3.size; omega) (fun h => ?_)
          rcases S'.evl b h with h3 | h3
          · omega
          · exact h2 h3)
        have hE5 : EntR ι5 (rem.eraseIdx i) (left.eraseIdx i) := (hE'.mono S25.ext).erase i
        have again : MLQ T.P p (mb, es) s.m.next Q n (rem.eraseIdx i) s5 → Code.rounds T.P (.seq (.region id2 p.sops false) (.seq (.cond (.tmp p.more) .skip (.exit p.out)) (.block p.nx (.seq (.region id3 p.eops false) p.body)))) (Exit.inBlock p.out (Post ι st.m w Q)) n a5 w5 := fun hJ5 =>
          ih (rem.eraseIdx i) (left.eraseIdx i) s5 ι5 a5 w5 hs5 hn5' hit5 (S25.ext _ _ hιn) hJ5 S15 hI5 hE5
        cases ex with
        | normal => exact again hQ5
        | exit j =>
          simp only at hQ5
          show Exit.inBlock p.nx _ (.exit j) a5 w5
          simp only [Exit.inBlock]
          by_cases hj : j = p.nx
          · rw [if_pos hj] at hQ5 ⊢
            exact again hQ5
          · rw [if_neg hj] at hQ5 ⊢
            show Exit.inBlock p.out (Post ι st.m w Q) (.exit j) a5 w5
            simp only [Exit.inBlock]
            by_cases hjo : j = p.out
            · rw [if_pos hjo] at hQ5 ⊢
              exact fin ι5 s5 a5 w5 .normal hs5 S15 hQ5
            · rw [if_neg hjo] at hQ5 ⊢
              exact fin ι5 s5 a5 w5 (.exit j) hs5 S15 hQ5
        | goto l => exact fin ι5 s5 a5 w5 (.goto l) hs5 S15 hQ5
        | ret => exact fin ι5 s5 a5 w5 .ret hs5 S15 hQ5
  have hsI : StR (fun b => if b = s.m.next then some ⟨w1.heap.size, 0, 0⟩ else ι1 b) ⟨s.n, s.t, bumpM (hideM s.m mb)⟩ a1 (w1.alloc o) := ⟨hs1.1, fun i => (hs1.2.1 i).mono hext, hs1.2.2.1, Sb.rel⟩
  have hptr : VR (fun b => if b = s.m.next then some ⟨w1.heap.size, 0, 0⟩ else ι1 b) (.ptr s.m.next 0) (.pointer (some ⟨w1.heap.size, 0, none⟩)) := .ptr s.m.next 0 ⟨w1.heap.size, 0, 0⟩ (by simp)
  have hsJ := hsI.put (d := p.it) hptr b1
  refine key K es left (itSt p s (mb, es)) _ _ _ hsJ rfl ?_ (by simp) hgo Sb hI (hE.mono hext)
  show (s.t.set p.it _).get p.it = _
  rw [Tr.get_set_eq]

end Go.AM

/- The abstract machine, part 42: calls reckoned out, with loops over maps. -/
namespace Go.AM


/-! ## Reckoned out without heaps of what is not looked at -/

def forceN {α : Type} (n : Nat) (k : Nat → α) : α := match n with
  | 0 => k 0
  | m + 1 => k (m + 1)
theorem forceN_eq {α : Type} (n : Nat) (k : Nat → α) : forceN n k = k n := by cases n <;> rfl
def forceS {α : Type} (st : St) (k : St → α) : α := match st with
  | ⟨n, t, ⟨nx, rows⟩⟩ => forceN n fun n => forceN nx fun nx => k ⟨n, t, ⟨nx, rows⟩⟩
theorem forceS_eq {α : Type} (st : St) (k : St → α) : forceS st k = k st := by
  obtain ⟨n, t, ⟨nx, rows⟩⟩ := st
  show forceN n (fun n => forceN nx fun nx => k ⟨n, t, ⟨nx, rows⟩⟩) = _
  rw [forceN_eq, forceN_eq]

/-- What an operation comes to; calls are looked for among calls alone. -/
def evEff2 (T : Tab) (call : CallF) (fr : Tr AV) (o : Oper) (M : Mem) : Option (AV × Mem) := match o.op with
  | .call _ => evEff T call fr o M
  | _ => evalOp T fr o M
theorem evEff2_eq (T : Tab) (call : CallF) (fr : Tr AV) (o : Oper) (M : Mem) : evEff2 T call fr o M = evEff T call fr o M := by
  unfold evEff2
  split
  · rfl
  · rename_i h
    have : calleeA fr o = none := by
      unfold calleeA
      split
      · rename_i c hc
        exact (h c hc).elim
      · rfl
    unfold evEff
    rw [this]

/-- A list of operations, the state taken apart. -/
def evalL2 (T : Tab) (call : CallF) (ops : Array Oper) : List Oper → Nat → Tr AV → Mem → Option St
  | [], n, t, m => some ⟨n, t, m⟩
  | o :: rest, n, t, m =>
    match wantedA ops t o with
    | some false => match o.dst with
      | none => evalL2 T call ops rest n t m
      | some d => cond (Nat.blt d n) (evalL2 T call ops rest n (t.set d (some undefA)) m) none
    | some true => match evEff2 T call t o m with
      | some (x, m') => match o.dst with
        | none => evalL2 T call ops rest n t m'
        | some d => cond (Nat.blt d n) (evalL2 T call ops rest n (t.set d (some x)) m') none
      | none => none
    | none => none
theorem evalL2_eq (T : Tab) (call : CallF) (ops : Array Oper) : ∀ (l : List Oper) (n : Nat) (t : Tr AV) (m : Mem), evalL2 T call ops l n t m = evalL T call ops l ⟨n, t, m⟩
  | [], n, t, m => rfl
  | o :: rest, n, t, m => by
    unfold evalL2 evalL
    simp only [evEff2_eq]
    cases hw : wantedA ops t o with
    | none => rfl
    | some b =>
      cases b with
      | false =>
        simp only [putA]
        cases hd : o.dst with
        | none => simp only; exact evalL2_eq T call ops rest n t m
        | some d =>
          simp only
          cases Nat.blt d n with
          | true => simp only [cond_true]; exact evalL2_eq T call ops rest n _ m
          | false => rfl
      | true =>
        simp only
        cases he : evEff T call t o m with
        | none => rfl
        | some r =>
          obtain ⟨x, m'⟩ := r
          simp only [putA]
          cases hd : o.dst with
          | none => simp only; exact evalL2_eq T call ops rest n t m'
          | some d =>
            simp only
            cases Nat.blt d n with
            | true => simp only [cond_true]; exact evalL2_eq T call ops rest n _ m'
            | false => rfl
def evalLS (T : Tab) (call : CallF) (ops : Array Oper) (st : St) : Option St := match st with
  | ⟨n, t, m⟩ => evalL2 T call ops ops.toList n t m
theorem evalLS_eq (T : Tab) (call : CallF) (ops : Array Oper) (st : St) : evalLS T call ops st = evalL T call ops ops.toList st := by
  obtain ⟨n, t, m⟩ := st
  exact evalL2_eq T call ops _ n t m

mutual
def evalC2 (T : Tab) (call : CallF) : Nat → Code → St → Option (Ex × St)
  | 0, _, _ => none
  | n + 1, c, st => match c with
    | .skip => some (.normal, st)
    | .label _ => some (.normal, st)
    | .region _ ops d => match cond d (evalDraw T call ops st) (evalLS T call ops st) with
      | some st' => forceS st' fun s => some (.normal, s)
      | none => none
    | .seq a b => match evalC2 T call n a st with
      | some (.normal, st') => evalC2 T call n b st'
      | r => r
    | .cond x a b => match opnd st.t x with
      | .val (.bool v) => evalC2 T call n (cond v a b) st
      | _ => none
    | .block id b => match evalC2 T call n b st with
      | some (.exit i, st') => some (cond (Nat.beq i id) .normal (.exit i), st')
      | r => r
    | .loop b => match evalC2 T call n b st with
      | some (.normal, st') => evalC2 T call n (.loop b) st'
      | r => r
    | .scope b => evalS2 T call n b b st
    | .exit i => some (.exit i, st)
    | .goto l => some (.goto l, st)
    | .ret => some (.ret, st)
    | .rangeFunc .. => none
    | .refuse _ => none
def evalS2 (T : Tab) (call : CallF) : Nat → Code → Code → St → Option (Ex × St)
  | 0, _, _, _ => none
  | n + 1, whole, cur, st => match evalC2 T call n cur st with
    | some (.goto l, st') => match findLabel whole l with
      | some rest => evalS2 T call n whole rest st'
      | none => some (.goto l, st')
    | r => r
end

section
variable {T : Tab} (ok : T.Ok) (hmix : T.P.follows .mixedOrders = true) {call : CallF} (hcall : CallsOk T call) {nt : Nat}
include ok hmix hcall

mutual
theorem evalC2_ok : ∀ (n : Nat) {c : Code} {st st' : St} {ex : Ex}, CodeOk T nt c → nt ≤ st.n → evalC2 T call n c st = some (ex, st') → (∀ Q : Ex → St → Prop, Q ex st' → WpA T.P c st Q) ∧ st'.n = st.n
  | 0, c, st, st', ex, _, _, h => by simp [evalC2] at h
  | n + 1, c, st, st', ex, hc, hn, h => by
    unfold evalC2 at h
    split at h
    · injection h with h; injection h with h1 h2; subst h1 h2
      exact ⟨fun Q hQ => wpa_skip hQ, rfl⟩
    · injection h with h; injection h with h1 h2; subst h1 h2
      exact ⟨fun Q hQ => wpa_label hQ, rfl⟩
    · rename_i id ops d
      split at h
      · rename_i st1 hst
        rw [forceS_eq] at h
        injection h with h; injection h with h1 h2; subst h1 h2
        cases d with
        | true =>
          rw [cond_true] at hst
          exact ⟨fun Q hQ => wpa_evalDraw ok hmix hcall hc hn hst hQ, evalDraw_n hst⟩
        | false =>
          rw [cond_false, evalLS_eq] at hst
          have := evalL_ok ok hcall hst
          exact ⟨fun Q hQ => wpa_region (this.1 Q hQ), this.2⟩
      · cases h
    · rename_i a b
      split at h
      · rename_i st1 h1
        have i1 := evalC2_ok n hc.1 hn h1
        have i2 := evalC2_ok n hc.2 (by rw [i1.2]; exact hn) h
        exact ⟨fun Q hQ => wpa_seq (i1.1 _ (i2.1 Q hQ)), by rw [i2.2, i1.2]⟩
      · rename_i hno
        have i1 := evalC2_ok n hc.1 hn h
        refine ⟨fun Q hQ => wpa_seq (i1.1 _ ?_), i1.2⟩
        cases ex with
        | normal => exact (hno _ h).elim
        | _ => exact hQ
    · rename_i x a b
      split at h
      · rename_i v hv
        have i1 := evalC2_ok n (c := cond v a b) (by cases v; exact hc.2; exact hc.1) hn h
        exact ⟨fun Q hQ => wpa_cond hv (i1.1 Q hQ), i1.2⟩
      · cases h
    · rename_i id b
      split at h
      · rename_i i st1 h1
        injection h with h; injection h with h2 h3; subst h2 h3
        have i1 := evalC2_ok n (c := b) hc hn h1
        refine ⟨fun Q hQ => wpa_block (i1.1 _ ?_), i1.2⟩
        simp only [onExit]
        rw [cond_eq_ite] at hQ
        split
        · rename_i he; rw [if_pos (by simpa using he)] at hQ; exact hQ
        · rename_i he; rw [if_neg (by simpa using he)] at hQ; exact hQ
      · rename_i hno
        have i1 := evalC2_ok n (c := b) hc hn h
        refine ⟨fun Q hQ => wpa_block (i1.1 _ ?_), i1.2⟩
        cases ex with
        | exit i => exact (hno _ _ h).elim
        | _ => exact hQ
    · rename_i b
      have i1 := evalR2_ok (n + 1) (b := b) hc hn (by unfold evalC2; exact h)
      exact ⟨fun Q hQ => (i1.1 Q hQ).elim fun k hk => wpa_rounds k hk, i1.2⟩
    · rename_i b
      have i1 := evalS2_ok n (whole := b) (cur := b) hc hc hn h
      exact ⟨fun Q hQ => wpa_scope (i1.1 Q hQ), i1.2⟩
    · injection h with h; injection h with h1 h2; subst h1 h2
      exact ⟨fun Q hQ => wpa_exit hQ, rfl⟩
    · injection h with h; injection h with h1 h2; subst h1 h2
      exact ⟨fun Q hQ => wpa_goto hQ, rfl⟩
    · injection h with h; injection h with h1 h2; subst h1 h2
      exact ⟨fun Q hQ => wpa_ret hQ, rfl⟩
    · cases h
    · cases h
theorem evalR2_ok : ∀ (n : Nat) {b : Code} {st st' : St} {ex : Ex}, CodeOk T nt b → nt ≤ st.n → evalC2 T call n (.loop b) st = some (ex, st') → (∀ Q : Ex → St → Prop, Q ex st' → ∃ k, RdA T.P b Q k st) ∧ st'.n = st.n
  | 0, b, st, st', ex, _, _, h => by simp [evalC2] at h
  | n + 1, b, st, st', ex, hc, hn, h => by
    unfold evalC2 at h
    simp only at h
    split at h
    · rename_i st1 h1
      have i1 := evalC2_ok n (c := b) hc hn h1
      have i2 := evalR2_ok n (b := b) hc (by rw [i1.2]; exact hn) h
      refine ⟨fun Q hQ => ?_, by rw [i2.2, i1.2]⟩
      obtain ⟨k, hk⟩ := i2.1 Q hQ
      exact ⟨k + 1, i1.1 _ hk⟩
    · rename_i hno
      have i1 := evalC2_ok n (c := b) hc hn h
      refine ⟨fun Q hQ => ⟨1, i1.1 _ ?_⟩, i1.2⟩
      cases ex with
      | normal => exact (hno _ h).elim
      | _ => exact hQ
theorem evalS2_ok : ∀ (n : Nat) {whole cur : Code} {st st' : St} {ex : Ex}, CodeOk T nt whole → CodeOk T nt cur → nt ≤ st.n → evalS2 T call n whole cur st = some (ex, st') →
    (∀ Q : Ex → St → Prop, Q ex st' → WpS T.P whole cur st Q) ∧ st'.n = st.n
  | 0, _, _, _, _, _, _, _, _, h => by simp [evalS2] at h
  | n + 1, whole, cur, st, st', ex, hw, hc, hn, h => by
    unfold evalS2 at h
    split at h
    · rename_i l st1 h1
      have i1 := evalC2_ok n hc hn h1
      split at h
      · rename_i rest hr
        have i2 := evalS2_ok n hw (codeOk_label hw hr) (by rw [i1.2]; exact hn) h
        refine ⟨fun Q hQ => wps_intro (i1.1 _ ?_), by rw [i2.2, i1.2]⟩
        simp only [onGoto]
        rw [hr]
        exact i2.1 Q hQ
      · rename_i hr
        injection h with h; injection h with h2 h3; subst h2 h3
        refine ⟨fun Q hQ => wps_intro (i1.1 _ ?_), i1.2⟩
        simp only [onGoto]
        rw [hr]
        exact hQ
    · rename_i hno
      have i1 := evalC2_ok n hc hn h
      refine ⟨fun Q hQ => wps_intro (i1.1 _ ?_), i1.2⟩
      cases ex with
      | goto l => exact (hno _ _ h).elim
      | _ => exact hQ
end
end


abbrev Outs := List (Ex × St)

def bindX (f : Ex × St → Option Outs) : Outs → Option Outs
  | [] => some []
  | o :: r => match f o with
    | none => none
    | some a => match bindX f r with
      | none => none
      | some b => some (a ++ b)

theorem bindX_mem {f : Ex × St → Option Outs} : ∀ {l outs : Outs}, bindX f l = some outs → ∀ o ∈ l, ∃ a, f o = some a ∧ ∀ x ∈ a, x ∈ outs
  | [], _, _, o, ho => by simp at ho
  | y :: l, outs, h, o, ho => by
    unfold bindX at h
    split at h
    · cases h
    · rename_i a ha
      split at h
      · cases h
      · rename_i b hb
        injection h with h; subst h
        simp only [List.mem_cons] at ho
        rcases ho with rfl | ho
        · exact ⟨a, ha, fun x hx => by simp [hx]⟩
        · obtain ⟨a', h1, h2⟩ := bindX_mem hb o ho
          exact ⟨a', h1, fun x hx => by simp [h2 x hx]⟩

theorem bindX_all {f : Ex × St → Option Outs} {P : Ex × St → Prop} : ∀ {l outs : Outs}, bindX f l = some outs → (∀ o ∈ l, ∀ a, f o = some a → ∀ x ∈ a, P x) → ∀ x ∈ outs, P x
  | [], _, h, _, x, hx => by
    simp only [bindX, Option.some.injEq] at h
    subst h
    simp at hx
  | y :: l, outs, h, hp, x, hx => by
    unfold bindX at h
    split at h
    · cases h
    · rename_i a ha
      split at h
      · cases h
      · rename_i b hb
        injection h with h; subst h
        simp only [List.mem_append] at hx
        rcases hx with hx | hx
        · exact hp y (by simp) a ha x hx
        · exact bindX_all hb (fun o ho => hp o (by simp [ho])) x hx

def mlAll (f : Nat → AV × AV → Option Outs) : Nat → List (AV × AV) → Option Outs
  | _, [] => some []
  | i, e :: r => match f i e with
    | none => none
    | some a => match mlAll f (i + 1) r with
      | none => none
      | some b => some (a ++ b)

theorem mlAll_mem {f : Nat → AV × AV → Option Outs} : ∀ {l : List (AV × AV)} {i : Nat} {outs : Outs}, mlAll f i l = some outs → ∀ j e, l[j]? = some e → ∃ a, f (i + j) e = some a ∧ ∀ x ∈ a, x ∈ outs
  | [], _, _, _, j, e, he => by simp at he
  | y :: l, i, outs, h, j, e, he => by
    unfold mlAll at h
    split at h
    · cases h
    · rename_i a ha
      split at h
      · cases h
      · rename_i b hb
        injection h with h; subst h
        cases j with
        | zero =>
          simp only [List.getElem?_cons_zero, Option.some.injEq] at he
          subst he
          exact ⟨a, ha, fun x hx => by simp [hx]⟩
        | succ j =>
          simp only [List.getElem?_cons_succ] at he
          obtain ⟨a', h1, h2⟩ := mlAll_mem hb j e he
          exact ⟨a', by rw [show i + (j + 1) = i + 1 + j by omega]; exact h1, fun x hx => by simp [h2 x hx]⟩

theorem mlAll_all {f : Nat → AV × AV → Option Outs} {P : Ex × St → Prop} : ∀ {l : List (AV × AV)} {i : Nat} {outs : Outs}, mlAll f i l = some outs → (∀ j e a, f j e = some a → ∀ x ∈ a, P x) → ∀ x ∈ outs, P x
  | [], _, _, h, _, x, hx => by
    simp only [mlAll, Option.some.injEq] at h
    subst h
    simp at hx
  | y :: l, i, outs, h, hp, x, hx => by
    unfold mlAll at h
    split at h
    · cases h
    · rename_i a ha
      split at h
      · cases h
      · rename_i b hb
        injection h with h; subst h
        simp only [List.mem_append] at hx
        rcases hx with hx | hx
        · exact hp i y a ha x hx
        · exact mlAll_all hb hp x hx

def mlStep (p : ML) (eb : Option Nat × List (AV × AV)) (nb : Nat) (go : List (AV × AV) → St → Option Outs) (rem' : List (AV × AV)) (o : Ex × St) : Option Outs :=
  match o.2.t.get p.it with
  | some (.ptr b c) => cond (Nat.beq b nb && Nat.beq c 0) (match o.1 with
    | .normal => go rem' o.2
    | .exit j => cond (Nat.beq j p.nx) (go rem' o.2) (some [(cond (Nat.beq j p.out) .normal (.exit j), outSt eb o.2)])
    | .goto l => some [(.goto l, outSt eb o.2)]
    | .ret => some [(.ret, outSt eb o.2)]) none
  | _ => none

def mlGo (T : Tab) (call : CallF) (ev : St → Option Outs) (p : ML) (eb : Option Nat × List (AV × AV)) (nb : Nat) : Nat → List (AV × AV) → St → Option Outs
  | 0, _, _ => none
  | K + 1, rem, s => match rem with
    | [] => some [(.normal, endSt p eb s)]
    | _ :: _ => mlAll (fun i e => match evalL T call p.eops p.rest (entSt p e.1 e.2 s) with
      | none => none
      | some s2 => match ev s2 with
        | none => none
        | some outs => bindX (mlStep p eb nb (mlGo T call ev p eb nb K) (rem.eraseIdx i)) outs) 0 rem

section
variable {T : Tab} (ok : T.Ok) {call : CallF} (hcall : CallsOk T call)
include ok hcall

theorem mlGo_ok {ev : St → Option Outs} {p : ML} {eb : Option Nat × List (AV × AV)} {nb N : Nat}
    (hev : ∀ s outs, s.n = N → ev s = some outs → (∀ Q : Ex → St → Prop, (∀ o ∈ outs, Q o.1 o.2) → WpA T.P p.body s Q) ∧ ∀ o ∈ outs, o.2.n = s.n) : ∀ (K : Nat) {rem : List (AV × AV)} {s : St} {outs : Outs}, s.n = N → mlGo T call ev p eb nb K rem s = some outs →
    (∀ Q : Ex → St → Prop, (∀ o ∈ outs, Q o.1 o.2) → MLQ T.P p eb nb Q K rem s) ∧ ∀ o ∈ outs, o.2.n = N
  | 0, _, _, _, _, h => by simp [mlGo] at h
  | K + 1, rem, s, outs, hn, h => by
    unfold mlGo at h
    split at h
    · injection h with h; subst h
      refine ⟨fun Q hQ => ⟨fun _ => hQ (.normal, endSt p eb s) (by simp), fun i kk v hi => by simp at hi⟩, fun o ho => ?_⟩
      simp only [List.mem_singleton] at ho
      subst ho
      exact hn
    · rename_i e0 r0
      refine ⟨fun Q hQ => ⟨fun he => by simp at he, fun i kk v hi => ?_⟩, ?_⟩
      · obtain ⟨a, ha, hsub⟩ := mlAll_mem h i (kk, v) hi
        rw [Nat.zero_add] at ha
        split at ha
        · cases ha
        · rename_i s2 hs2
          have h2 := evalL_ok ok hcall hs2
          have hn2 : s2.n = s.n := h2.2
          split at ha
          · cases ha
          · rename_i os hos
            have hb := hev s2 os (hn2.trans hn) hos
            refine ⟨s2, h2.1, hn2, hb.1 _ fun o ho => ?_⟩
            obtain ⟨b, hb1, hb2⟩ := bindX_mem ha o ho
            have hon : o.2.n = s.n := (hb.2 o ho).trans hn2
            obtain ⟨ex, s3⟩ := o
            unfold mlStep at hb1
            split at hb1
            · rename_i bb cc hit
              rw [cond_eq_ite] at hb1
              split at hb1
              · rename_i hbc
                simp only [Bool.and_eq_true, Nat.beq_eq] at hbc
                obtain ⟨rfl, rfl⟩ := hbc
                refine ⟨hon, hit, ?_⟩
                have go : mlGo T call ev p eb bb K ((e0 :: r0).eraseIdx i) s3 = some b → MLQ T.P p eb bb Q K ((e0 :: r0).eraseIdx i) s3 := fun hg => (mlGo_ok hev K (hon.trans hn) hg).1 Q fun x hx => hQ x (hsub x (hb2 x hx))
                cases ex with
                | normal => exact go hb1
                | exit j =>
                  simp only at hb1 ⊢
                  rw [cond_eq_ite] at hb1
                  by_cases hj : j = p.nx
                  · rw [if_pos hj]
                    rw [if_pos (by simpa using hj)] at hb1
                    exact go hb1
                  · rw [if_neg hj]
                    rw [if_neg (by simpa using hj)] at hb1
                    injection hb1 with hb1; subst hb1
                    have := hQ _ (hsub _ (hb2 _ (List.mem_singleton.2 rfl)))
                    rw [cond_eq_ite] at this
                    by_cases hjo : j = p.out
                    · rw [if_pos hjo]; rw [if_pos (by simpa using hjo)] at this; exact this
                    · rw [if_neg hjo]; rw [if_neg (by simpa using hjo)] at this; exact this
                | goto l =>
                  injection hb1 with hb1; subst hb1
                  exact hQ _ (hsub _ (hb2 _ (List.mem_singleton.2 rfl)))
                | ret =>
                  injection hb1 with hb1; subst hb1
                  exact hQ _ (hsub _ (hb2 _ (List.mem_singleton.2 rfl)))
              · cases hb1
            · cases hb1
      · refine mlAll_all h fun j e a ha => ?_
        split at ha
        · cases ha
        · rename_i s2 hs2
          have h2 := evalL_ok ok hcall hs2
          have hn2 : s2.n = s.n := h2.2
          split at ha
          · cases ha
          · rename_i os hos
            have hb := hev s2 os (hn2.trans hn) hos
            refine bindX_all ha fun o ho b hb1 => ?_
            have hon : o.2.n = N := ((hb.2 o ho).trans hn2).trans hn
            obtain ⟨ex, s3⟩ := o
            have hout : ∀ x, b = [x] → x.2.n = s3.n → ∀ y ∈ b, y.2.n = N := fun x hx hxn y hy => by
              rw [hx, List.mem_singleton] at hy
              rw [hy, hxn]; exact hon
            unfold mlStep at hb1
            split at hb1
            · rw [cond_eq_ite] at hb1
              split at hb1
              · cases ex with
                | normal => exact (mlGo_ok hev K hon hb1).2
                | exit j =>
                  simp only at hb1
                  rw [cond_eq_ite] at hb1
                  split at hb1
                  · exact (mlGo_ok hev K hon hb1).2
                  · injection hb1 with hb1; exact hout _ hb1.symm rfl
                | goto l => injection hb1 with hb1; exact hout _ hb1.symm rfl
                | ret => injection hb1 with hb1; exact hout _ hb1.symm rfl
              · cases hb1
            · cases hb1
end

def hasML : Code → Bool
  | .seq a b => (mlParts (.seq a b)).isSome || (hasML a || hasML b)
  | .cond _ a b => hasML a || hasML b
  | .block _ b => hasML b
  | .loop b => hasML b
  | .scope b => hasML b
  | _ => false

def evalN (T : Tab) (call : CallF) : Nat → Code → St → Option Outs
  | 0, _, _ => none
  | n + 1, c, st => cond (hasML c)
    (match mlParts c with
    | some p => match T.ty.get p.xt with
      | some te => match te.k with
        | .mp _ _ => match evalL T call p.ops p.pre st with
          | none => none
          | some s => cond (Nat.blt p.it s.n && (Nat.blt p.ntm s.n && (Nat.blt p.more s.n && Nat.blt p.pair s.n)))
            (match entsB s.m (opnd s.t p.xo) with
            | none => none
            | some eb => mlGo T call (evalN T call n p.body) p eb s.m.next (eb.2.length + 1) eb.2 (itSt p s eb)) none
        | _ => none
      | none => none
    | none => match c with
      | .seq a b => match evalN T call n a st with
        | none => none
        | some outs => bindX (fun o => match o.1 with
          | .normal => evalN T call n b o.2
          | _ => some [o]) outs
      | .cond x a b => match opnd st.t x with
        | .val (.bool v) => evalN T call n (cond v a b) st
        | _ => none
      | .block id b => match evalN T call n b st with
        | none => none
        | some outs => some (outs.map fun o => match o.1 with
          | .exit i => (cond (Nat.beq i id) .normal (.exit i), o.2)
          | _ => o)
      | _ => none)
    (match evalC2 T call n c st with
    | none => none
    | some r => some [r])

section
variable {T : Tab} (ok : T.Ok) (hmix : T.P.follows .mixedOrders = true) {call : CallF} (hcall : CallsOk T call) {nt : Nat}
include ok hmix hcall

theorem evalN_ok : ∀ (n : Nat) {c : Code} {st : St} {outs : Outs}, CodeOk T nt c → nt ≤ st.n → evalN T call n c st = some outs →
    (∀ Q : Ex → St → Prop, (∀ o ∈ outs, Q o.1 o.2) → WpA T.P c st Q) ∧ ∀ o ∈ outs, o.2.n = st.n
  | 0, c, st, outs, _, _, h => by simp [evalN] at h
  | n + 1, c, st, outs, hc, hn, h => by
    unfold evalN at h
    rw [cond_eq_ite] at h
    split at h
    · split at h
      · rename_i p hp
        split at h
        · rename_i te hte
          split at h
          · rename_i kt vt hmp
            split at h
            · cases h
            · rename_i s hs
              rw [cond_eq_ite] at h
              split at h
              · rename_i hlt
                simp only [Bool.and_eq_true, Nat.blt_eq] at hlt
                split at h
                · cases h
                · rename_i eb heb
                  have h2 := evalL_ok ok hcall hs
                  have hcb : CodeOk T nt p.body := by
                    obtain ⟨⟨i1, i2, i3, rfl⟩, _⟩ := mlParts_eq hp
                    exact hc.2.2.2.2
                  have hg := mlGo_ok ok hcall (T := T) (call := call) (ev := evalN T call n p.body) (p := p) (eb := eb) (nb := s.m.next) (N := s.n) (fun s' os hs' he => evalN_ok n hcb (by rw [hs', h2.2]; exact hn) he) (eb.2.length + 1) (rem := eb.2) (s := itSt p s eb) rfl h
                  exact ⟨fun Q hQ => wpa_mlx ok hp hlt.1 hlt.2.1 hlt.2.2.1 hlt.2.2.2 hte hmp h2.1 heb (hg.1 Q hQ), fun o ho => (hg.2 o ho).trans h2.2⟩
              · cases h
          · cases h
        · cases h
      · split at h
        · rename_i a b
          split at h
          · cases h
          · rename_i os hos
            have i1 := evalN_ok n hc.1 hn hos
            refine ⟨fun Q hQ => wpa_seq (i1.1 _ fun o ho => ?_), bindX_all h fun o ho a' ha' => ?_⟩
            · obtain ⟨a', ha', hsub⟩ := bindX_mem h o ho
              obtain ⟨ex, s1⟩ := o
              cases ex with
              | normal => exact (evalN_ok n hc.2 (by rw [i1.2 _ ho]; exact hn) ha').1 Q fun x hx => hQ x (hsub x hx)
              | _ =>
                injection ha' with ha'; subst ha'
                exact hQ _ (hsub _ (List.mem_singleton.2 rfl))
            · have hon := i1.2 o ho
              obtain ⟨ex, s1⟩ := o
              cases ex with
              | normal => exact fun x hx => ((evalN_ok n hc.2 (by rw [hon]; exact hn) ha').2 x hx).trans hon
              | _ =>
                injection ha' with ha'; subst ha'
                exact fun x hx => by rw [List.mem_singleton] at hx; rw [hx]; exact hon
        · rename_i x a b _ _
          split at h
          · rename_i v hv
            have i1 := evalN_ok n (c := cond v a b) (by cases v; exact hc.2; exact hc.1) hn h
            exact ⟨fun Q hQ => wpa_cond hv (i1.1 Q hQ), i1.2⟩
          · cases h
        · rename_i id b _ _
          split at h
          · cases h
          · rename_i os hos
            injection h with h; subst h
            have i1 := evalN_ok n (c := b) hc hn hos
            refine ⟨fun Q hQ => wpa_block (i1.1 _ fun o ho => ?_), fun o ho => ?_⟩
            · have := hQ _ (List.mem_map.2 ⟨o, ho, rfl⟩)
              obtain ⟨ex, s1⟩ := o
              cases ex with
              | exit i =>
                simp only [onExit]
                simp only [cond_eq_ite] at this
                by_cases hi : i = id
                · rw [if_pos hi]; rw [if_pos (by simpa using hi)] at this; exact this
                · rw [if_neg hi]; rw [if_neg (by simpa using hi)] at this; exact this
              | _ => exact this
            · obtain ⟨o', ho', rfl⟩ := List.mem_map.1 ho
              have := i1.2 o' ho'
              obtain ⟨ex, s1⟩ := o'
              cases ex <;> exact this
        · cases h
    · split at h
      · cases h
      · rename_i r hr
        injection h with h; subst h
        obtain ⟨ex, s1⟩ := r
        have i1 := evalC2_ok ok hmix hcall n hc hn hr
        exact ⟨fun Q hQ => i1.1 Q (hQ _ (List.mem_singleton.2 rfl)), fun o ho => by rw [List.mem_singleton] at ho; rw [ho]; exact i1.2⟩
end

/-! ## Calls -/

def resO (T : Tab) (F : Func) (o : Ex × St) : Option (AV × Mem) := match o.1 with
  | .normal => match resultA T F o.2 with
    | some x => some (x, o.2.m)
    | none => none
  | .ret => match resultA T F o.2 with
    | some x => some (x, o.2.m)
    | none => none
  | _ => none

theorem resO_ok {T : Tab} {F : Func} {o : Ex × St} {r : AV × Mem} (h : resO T F o = some r) : (o.1 = .normal ∨ o.1 = .ret) ∧ resultA T F o.2 = some r.1 ∧ r.2 = o.2.m := by
  obtain ⟨ex, s⟩ := o
  unfold resO at h
  cases ex <;> simp only at h
  case normal =>
    split at h
    · rename_i x hx
      injection h with h; subst h
      exact ⟨.inl rfl, hx, rfl⟩
    · cases h
  case ret =>
    split at h
    · rename_i x hx
      injection h with h; subst h
      exact ⟨.inr rfl, hx, rfl⟩
    · cases h
  all_goals cases h

/-- What all outcomes have in common. -/
def meetR (T : Tab) (F : Func) : Outs → Option (AV × Mem)
  | [] => none
  | [o] => resO T F o
  | o :: r => match resO T F o with
    | none => none
    | some (x, M) => match meetR T F r with
      | none => none
      | some (y, N) => cond (sameAV x y) (match meetM M N with
        | none => none
        | some K => some (x, K)) none

theorem meetR_ok {T : Tab} {F : Func} : ∀ {outs : Outs} {x : AV} {K : Mem}, meetR T F outs = some (x, K) → ∀ o ∈ outs, (o.1 = .normal ∨ o.1 = .ret) ∧ resultA T F o.2 = some x ∧ Sub K o.2.m
  | [], _, _, h, _, _ => by simp [meetR] at h
  | [o], x, K, h, o', ho => by
    rw [List.mem_singleton] at ho
    subst ho
    have := resO_ok (show resO T F o' = some (x, K) from h)
    exact ⟨this.1, this.2.1, by rw [show K = o'.2.m from this.2.2]; exact Sub.refl _⟩
  | o :: o2 :: r, x, K, h, o', ho => by
    unfold meetR at h
    split at h
    · cases h
    · rename_i x1 M h1
      split at h
      · cases h
      · rename_i y N h2
        rw [cond_eq_ite] at h
        split at h
        · rename_i hxy
          split at h
          · cases h
          · rename_i K' hK
            simp only [Option.some.injEq, Prod.mk.injEq] at h
            obtain ⟨rfl, rfl⟩ := h
            have hs := meetM_ok hK
            rw [List.mem_cons] at ho
            rcases ho with rfl | ho
            · have := resO_ok h1
              exact ⟨this.1, this.2.1, by rw [← this.2.2]; exact hs.1⟩
            · have := meetR_ok h2 o' ho
              rw [← sameAV_eq _ _ hxy] at this
              exact ⟨this.1, this.2.1, hs.2.trans this.2.2⟩
        · cases h

end Go.AM

/- The abstract machine, part 43: slices.Sorted(maps.Keys(m)) as an oracle: what it answers, to the row. -/
namespace Go.AM

/-- Sorted insertion, and sorting by it. -/
def insI (x : Int) : List Int → List Int
  | [] => [x]
  | y :: r => cond (decide (x ≤ y)) (x :: y :: r) (y :: insI x r)
def sortI : List Int → List Int
  | [] => []
  | x :: r => insI x (sortI r)

theorem insI_perm (x : Int) : ∀ l : List Int, (insI x l).Perm (x :: l)
  | [] => List.Perm.refl _
  | y :: r => by
    unfold insI
    cases decide (x ≤ y)
    · exact (List.Perm.cons y (insI_perm x r)).trans (List.Perm.swap x y r)
    · exact List.Perm.refl _
theorem sortI_perm : ∀ l : List Int, (sortI l).Perm l
  | [] => List.Perm.refl _
  | x :: r => (insI_perm x _).trans (List.Perm.cons x (sortI_perm r))
theorem insI_sorted (x : Int) : ∀ {l : List Int}, l.Pairwise (· ≤ ·) → (insI x l).Pairwise (· ≤ ·)
  | [], _ => by simp [insI]
  | y :: r, h => by
    unfold insI
    rw [List.pairwise_cons] at h
    cases hd : decide (x ≤ y)
    · have hxy : ¬ x ≤ y := of_decide_eq_false hd
      simp only [cond_false, List.pairwise_cons]
      refine ⟨fun z hz => ?_, insI_sorted x h.2⟩
      have := (insI_perm x r).mem_iff.1 hz
      simp only [List.mem_cons] at this
      rcases this with rfl | h2
      · omega
      · exact h.1 z h2
    · have hxy : x ≤ y := of_decide_eq_true hd
      simp only [cond_true, List.pairwise_cons]
      refine ⟨fun z hz => ?_, h.1, h.2⟩
      simp only [List.mem_cons] at hz
      rcases hz with rfl | h2
      · exact hxy
      · have := h.1 z h2; omega
theorem sortI_sorted : ∀ l : List Int, (sortI l).Pairwise (· ≤ ·)
  | [] => List.Pairwise.nil
  | x :: r => insI_sorted x (sortI_sorted r)

theorem sorted_unique : ∀ {a b : List Int}, a.Perm b → a.Pairwise (· ≤ ·) → b.Pairwise (· ≤ ·) → a = b
  | [], b, h, _, _ => by rw [List.nil_perm.1 h]
  | x :: a, [], h, _, _ => by simp at h
  | x :: a, y :: b, h, ha, hb => by
    rw [List.pairwise_cons] at ha hb
    have hx : x ∈ y :: b := h.mem_iff.1 (by simp)
    have hy : y ∈ x :: a := h.mem_iff.2 (by simp)
    have hxy : x = y := by
      simp only [List.mem_cons] at hx hy
      rcases hx with e | hx
      · exact e
      · rcases hy with e | hy
        · exact e.symm
        · have h1 := ha.1 y hy; have h2 := hb.1 x hx; omega
    subst hxy
    rw [sorted_unique (List.Perm.cons_inv h) ha.2 hb.2]

theorem merge_sortI {ss ks : List Int} (h : ss.Perm ks) : ss.mergeSort (fun x y => decide (x ≤ y)) = sortI ks := by
  refine sorted_unique (((List.mergeSort_perm ss _).trans h).trans (sortI_perm ks).symm) ?_ (sortI_sorted ks)
  have := List.pairwise_mergeSort (le := fun (x y : Int) => decide (x ≤ y)) (fun a b c h1 h2 => by simp only [decide_eq_true_eq] at *; omega) (fun a b => by simp only [Bool.or_eq_true, decide_eq_true_eq]; omega) ss
  exact this.imp fun h => of_decide_eq_true h

/-- The keys, if they are numbers of the kind int. -/
def keysI : List (AV × AV) → Option (List Int)
  | [] => some []
  | (.val (.int .i64 z), _) :: r => match keysI r with
    | some ks => some (z :: ks)
    | none => none
  | _ => none
theorem keysI_ok : ∀ {es : List (AV × AV)} {ks : List Int}, keysI es = some ks → es.map (·.1) = ks.map (fun k => AV.val (.int .i64 k))
  | [], ks, h => by
    simp only [keysI, Option.some.injEq] at h
    subst h; rfl
  | (k, v) :: r, ks, h => by
    unfold keysI at h
    split at h
    · rename_i h1
      cases h1
    · rename_i z _ r' h1
      simp only [List.cons.injEq, Prod.mk.injEq] at h1
      obtain ⟨⟨h1, h3⟩, h2⟩ := h1
      subst h2
      split at h
      · rename_i ks' hk
        injection h with h; subst h
        have := keysI_ok hk
        simp only [List.map_cons]
        rw [this, h1]
      · cases h
    · cases h

def memI (x : Int) : List Int → Bool
  | [] => false
  | y :: r => decide (x = y) || memI x r
theorem memI_no {x : Int} : ∀ {l : List Int}, memI x l = false → x ∉ l
  | [], _ => by simp
  | y :: r, h => by
    simp only [memI, Bool.or_eq_false_iff, decide_eq_false_iff_not] at h
    simp only [List.mem_cons, not_or]
    exact ⟨h.1, memI_no h.2⟩
def okKeys : List Int → Bool
  | [] => true
  | x :: r => !memI x r && (decide (-9223372036854775808 ≤ x) && (decide (x ≤ 9223372036854775807) && okKeys r))
theorem okKeys_ok : ∀ {l : List Int}, okKeys l = true → l.Nodup ∧ ∀ k ∈ l, -9223372036854775808 ≤ k ∧ k ≤ 9223372036854775807
  | [], _ => ⟨List.nodup_nil, fun k hk => by simp at hk⟩
  | x :: r, h => by
    simp only [okKeys, Bool.and_eq_true, Bool.not_eq_true', decide_eq_true_eq] at h
    have := okKeys_ok h.2.2.2
    refine ⟨List.nodup_cons.2 ⟨memI_no h.1, this.1⟩, fun k hk => ?_⟩
    simp only [List.mem_cons] at hk
    rcases hk with rfl | hk
    · exact ⟨h.2.1, h.2.2.1⟩
    · exact this.2 k hk

def orcKeys (it : FuncId) (args : List AV) (M : Mem) : Option (AV × Mem) := match args with
  | [.fn f [] [.ptr q 0]] => cond (Nat.beq f it) (match M.get q with
    | some (.cells [.map b] _) => match M.get b with
      | some (.map es) => match keysI es with
        | some [] => some (.val (.slice none 0 0), M)
        | some (k :: ks) => cond (okKeys (k :: ks) && Nat.ble (k :: ks).length 1000)
          (some (.sl M.next 0 (k :: ks).length (k :: ks).length (some 1), M.new (.cells ((sortI (k :: ks)).map fun k => AV.val (.int .i64 k)) true))) none
        | none => none
      | _ => none
    | _ => none) none
  | _ => none

end Go.AM

/- The abstract machine, part 44: calls that leave memory as it was, to the row; oracles that may pass. -/
namespace Go.AM

/-! ## What is known of a value already -/

mutual
theorem VR.back {ι ι' : Inj} (he : Ext ι ι') : ∀ {x : AV} {v0 v : Value}, VR ι x v0 → VR ι' x v → VR ι x v
  | _, _, _, .val v h, k => by cases k; exact .val _ h
  | _, _, _, .ptr b o l h, k => by
    cases k with
    | ptr _ _ l' h' => rw [he _ _ h] at h'; injection h' with h'; subst h'; exact .ptr b o l h
  | _, _, _, .slE b o n c l h, k => by
    cases k with
    | slE _ _ _ _ l' h' => rw [he _ _ h] at h'; injection h' with h'; subst h'; exact .slE b o n c l h
  | _, _, _, .slI b o n c e c1 l h hc hs, k => by
    cases k with
    | slI _ _ _ _ _ c2 l' h' hc' hs' => rw [he _ _ h] at h'; injection h' with h'; subst h'; exact .slI b o n c e c2 l h hc' hs'
    | slZ _ _ _ x l' h' => rw [he _ _ h] at h'; injection h' with h'; subst h'; exact .slZ b o e x l h
  | _, _, _, .slZ b o e x l h, k => by
    cases k with
    | slI _ _ _ _ _ c2 l' h' hc' hs' => rw [he _ _ h] at h'; injection h' with h'; subst h'; exact .slI b o 0 0 e c2 l h hc' hs'
    | slZ _ _ _ y l' h' => rw [he _ _ h] at h'; injection h' with h'; subst h'; exact .slZ b o e y l h
  | _, _, _, .map b l h, k => by
    cases k with
    | map _ l' h' => rw [he _ _ h] at h'; injection h' with h'; subst h'; exact .map b l h
  | _, _, _, .fn f fs cs vf vc hf hc, k => by
    cases k with
    | fn _ _ _ vf' vc' hf' hc' => exact .fn f fs cs vf' vc' (VRs.back he hf hf') (VRs.back he hc hc')
  | _, _, _, .agg cs vs h, k => by
    cases k with
    | agg _ vs' h' => exact .agg cs vs' (VRs.back he h h')
  | _, _, _, .tup cs vs h, k => by
    cases k with
    | tup _ vs' h' => exact .tup cs vs' (VRs.back he h h')
theorem VRs.back {ι ι' : Inj} (he : Ext ι ι') : ∀ {xs : List AV} {v0 vs : List Value}, VRs ι xs v0 → VRs ι' xs vs → VRs ι xs vs
  | _, _, _, .nil, k => by cases k; exact .nil
  | _, _, _, .cons x v xs vs h hs, k => by
    cases k with
    | cons _ v' _ vs' h' hs' => exact .cons x v' xs vs' (VR.back he h h') (VRs.back he hs hs')
end

theorem EntR.back {ι ι' : Inj} (he : Ext ι ι') : ∀ {es : List (AV × AV)} {m0 ms : List MapEntry}, EntR ι es m0 → EntR ι' es ms → EntR ι es ms
  | _, _, _, .nil, k => by cases k; exact .nil
  | _, _, _, .cons x y m es ms hk hv hs, k => by
    cases k with
    | cons _ _ m' _ ms' hk' hv' hs' => exact .cons x y m' es ms' (hk.back he hk') (hv.back he hv') (EntR.back he hs hs')

theorem RowR.back {ι ι' : Inj} (he : Ext ι ι') {l : Loc} {r : Row} {o o' : Option Obj} (h : RowR ι l r o) (k : RowR ι' l r o') : RowR ι l r o' := by
  cases r with
  | cells cs rw =>
    cases o with
    | none => exact h.elim
    | some o =>
      cases o <;> try (exact h.elim)
      cases o' with
      | none => exact k.elim
      | some o' =>
        cases o' <;> try (exact k.elim)
        exact ⟨k.1, k.2.1, h.2.2.1.back he k.2.2.1, k.2.2.2⟩
  | map es =>
    cases o with
    | none => exact h.elim
    | some o =>
      cases o <;> try (exact h.elim)
      cases o' with
      | none => exact k.elim
      | some o' =>
        cases o' <;> try (exact k.elim)
        exact ⟨h.1.back he k.1, k.2⟩
  | sit s p =>
    cases o' with
    | none => exact k.elim
    | some o' =>
      cases o' <;> try (exact k.elim)
      exact k

/-- A call that keeps all rows, and answers what bears no new address, leaves memory as it was. -/
theorem CallA.exact {P : Program} {f : FuncId} {args : List AV} {M : Mem} {x : AV} {Q : AV → Mem → Prop} (h : CallA P f args M Q) (hq : ∀ y N, Q y N → y = x ∧ ∀ b r, M.get b = some r → N.get b = some r)
    (hx : ∀ ι vs, VRs ι args vs → ∃ v, VR ι x v) : CallA P f args M fun y N => y = x ∧ N = M := by
  intro ι w vs hv R
  refine (h ι w vs hv R).mono ?_
  rintro e w' ⟨ι', u, y, N, rfl, h2, S, h4⟩
  obtain ⟨rfl, hk⟩ := hq y N h4
  obtain ⟨v0, h0⟩ := hx ι _ hv
  refine ⟨ι, u, y, M, rfl, h0.back S.ext h2, ⟨⟨R.dom, fun b r hb => ?_, R.inj, R.bas⟩, Ext.refl ι, Nat.le_refl _, fun _ _ h => .inl h, S.size, S.frame, fun _ h => .inr h, fun _ h => .inr h, S.os, S.tape, S.output⟩, rfl, rfl⟩
  obtain ⟨l, h1, h5⟩ := R.live b r hb
  obtain ⟨l', h6, h7⟩ := S.rel.live b r (hk b r hb)
  rw [S.ext b l h1] at h6
  injection h6 with h6
  subst h6
  exact ⟨l, h1, h5.back S.ext h7⟩

theorem calla_wf {P : Program} {f : FuncId} {args : List AV} {M : Mem} {Q : AV → Mem → Prop} (h : M.WF → CallA P f args M Q) : CallA P f args M Q := fun ι w vs hv R =>
  h (fun b r hb => by obtain ⟨l, h1, _⟩ := R.live b r hb; exact R.dom b l h1) ι w vs hv R

theorem CallA.plain {P : Program} {f : FuncId} {args : List AV} {M : Mem} {v : Value} (hu : v.uno = true) (h : M.WF → CallA P f args M fun y N => y = .val v ∧ Keep M N []) : CallA P f args M fun y N => y = .val v ∧ N = M :=
  calla_wf fun hw => (h hw).exact (x := .val v) (fun y N hy => ⟨hy.1, fun b r hb => hy.2.get hw hb (by simp)⟩) fun ι vs _ => ⟨v, .val v hu⟩

/-! ## Oracles that may pass -/

abbrev OrcP := FuncId → List AV → Mem → Option (AV × Mem)
def OrcPOk (T : Tab) (orc : OrcP) : Prop := ∀ (g : FuncId) (args : List AV) (M : Mem) (x : AV) (M' : Mem), orc g args M = some (x, M') → CallA T.P g args M (fun y N => y = x ∧ N = M')

def evalH (T : Tab) (orc : OrcP) (mls : FuncId → Bool) (L : Nat) : Nat → CallF
  | 0, _, _, _ => none
  | n + 1, g, args, M => match orc g args M with
    | some r => some r
    | none => match T.fn.get g with
      | none => none
      | some F => match F.body with
        | none => none
        | some c => cond (mls g)
          (match evalN T (evalH T orc mls L n) L c (enterA F args M) with
          | none => none
          | some outs => meetR T F outs)
          (match evalC2 T (evalH T orc mls L n) L c (enterA F args M) with
          | some o => resO T F o
          | none => none)

theorem evalH_ok {T : Tab} (ok : T.Ok) (hmix : T.P.follows .mixedOrders = true) (fns : FnsOk T) {orc : OrcP} (ho : OrcPOk T orc) {mls : FuncId → Bool} {L : Nat} : ∀ (n : Nat) (g : FuncId) (args : List AV) (M : Mem) (x : AV) (M' : Mem),
    evalH T orc mls L n g args M = some (x, M') → CallA T.P g args M (fun y N => y = x ∧ N = M')
  | 0, g, args, M, x, M', h => by simp [evalH] at h
  | n + 1, g, args, M, x, M', h => by
    unfold evalH at h
    split at h
    · rename_i r hf
      injection h with h
      subst h
      exact ho g args M x M' hf
    · split at h
      · cases h
      · rename_i F hF
        split at h
        · cases h
        · rename_i c hc
          have hn : F.ntmps ≤ (enterA F args M).n := by simp only [enterA]; omega
          have hcall : CallsOk T (evalH T orc mls L n) := fun g F args M x M' _ h => evalH_ok ok hmix fns ho n g args M x M' h
          rw [cond_eq_ite] at h
          split at h
          · split at h
            · cases h
            · rename_i outs hos
              have h1 := evalN_ok ok hmix hcall L (fns g F hF c hc) hn hos
              refine (calla_body (Q := fun y N => y = x ∧ Sub M' N) ok hF hc (h1.1 (fun ex st => (ex = .normal ∨ ex = .ret) ∧ ∃ y, resultA T F st = some y ∧ (y = x ∧ Sub M' st.m)) fun o hoo => ?_)).sub fun y N hy => ⟨M', hy.2, hy.1, rfl⟩
              have := meetR_ok h o hoo
              exact ⟨this.1, x, this.2.1, rfl, this.2.2⟩
          · split at h
            · rename_i o hst
              obtain ⟨ex, st⟩ := o
              have := resO_ok h
              refine calla_body ok hF hc ((evalC2_ok ok hmix hcall L (fns g F hF c hc) hn hst).1 _ ⟨this.1, x, this.2.1, rfl, this.2.2.symm⟩)
            · cases h

theorem closedH_bool {T : Tab} (ok : T.Ok) (hmix : T.P.follows .mixedOrders = true) (fns : FnsOk T) {orc : OrcP} (ho : OrcPOk T orc) {mls : FuncId → Bool} {L n : Nat} {g : FuncId} {args : List AV} {b : Bool} (hp : ∀ x ∈ args, Plain x)
    (h : (match evalH T orc mls L n g args ⟨0, .e⟩ with | some (.val (.bool c), _) => b == c | _ => false) = true) (M : Mem) :
    CallA T.P g args M fun x N => x = .val (.bool b) ∧ N = M := by
  cases he : evalH T orc mls L n g args ⟨0, .e⟩ with
  | none => rw [he] at h; cases h
  | some r =>
    obtain ⟨x, N⟩ := r
    have hc := evalH_ok ok hmix fns ho n g args ⟨0, .e⟩ x N he
    rw [he] at h
    have hx : x = .val (.bool b) := by
      split at h
      · rename_i c N' heq
        injection heq with heq; injection heq with h1 h2
        rw [h1]
        have : b = c := by cases b <;> cases c <;> first | rfl | cases h
        rw [this]
      · cases h
    exact CallA.closed hc (fun y N' hy => by rw [hy.1, hx]) (fun _ _ _ h => VRs.plain hp h) (fun _ _ _ h => by cases h; exact .val _ rfl) M

end Go.AM

/- The abstract machine, part 45: calls that were reckoned out elsewhere, at a memory written down. -/
namespace Go.AM

def subO : Option Row → Option Row → Bool
  | none, _ => true
  | some a, some b => sameRow a b
  | some _, none => false
def subT : Tr Row → Tr Row → Bool
  | .e, _ => true
  | .n l x r, .n l' x' r' => subO x x' && (subT l l' && subT r r')
  | .n l x r, .e => subO x none && (subT l .e && subT r .e)
theorem subO_ok {a b : Option Row} {r : Row} (h : subO a b = true) (ha : a = some r) : b = some r := by
  subst ha
  cases b with
  | none => cases h
  | some b => rw [sameRow_eq h]
theorem subT_ok : ∀ {a b : Tr Row} {i : Nat} {r : Row}, subT a b = true → a.get i = some r → b.get i = some r
  | .e, _, i, r, _, h => by simp [Tr.get_e] at h
  | .n l x r, .n l' x' r', i, y, hs, h => by
    simp only [subT, Bool.and_eq_true] at hs
    rw [Tr.get_n] at h ⊢
    split at h
    · rename_i h0; rw [if_pos h0]; exact subO_ok hs.1 h
    · rename_i h0
      rw [if_neg h0]
      split at h
      · rename_i h1; rw [if_pos h1]; exact subT_ok hs.2.1 h
      · rename_i h1; rw [if_neg h1]; exact subT_ok hs.2.2 h
  | .n l x r, .e, i, y, hs, h => by
    simp only [subT, Bool.and_eq_true] at hs
    rw [Tr.get_n] at h
    split at h
    · exact subO_ok hs.1 h
    · split at h
      · have := subT_ok hs.2.1 h; rw [Tr.get_e] at this; cases this
      · have := subT_ok hs.2.2 h; rw [Tr.get_e] at this; cases this

/-- All rows of the first are rows of the second. -/
def subM (A B : Mem) : Bool := Nat.beq A.next B.next && subT A.rows B.rows
theorem subM_ok {A B : Mem} (h : subM A B = true) : Sub A B := by
  unfold subM at h
  rw [Bool.and_eq_true] at h
  exact ⟨by simpa using h.1, fun b r hb => subT_ok h.2 hb⟩

/-- With more rows, a call answers the same; those rows are forgotten. -/
theorem CallA.more {P : Program} {f : FuncId} {args : List AV} {M0 M : Mem} {Q : AV → Mem → Prop} (h : CallA P f args M0 Q) (hs : Sub M0 M) : CallA P f args M Q := by
  intro ι w vs hv R
  refine (h ι w vs hv (R.forget (Nat.le_of_eq hs.next.symm) hs.rows)).mono ?_
  rintro e w' ⟨ι', u, x, N, rfl, h2, S, h4⟩
  refine ⟨ι', u, x, N, rfl, h2, ⟨S.rel, S.ext, by rw [← hs.next]; exact S.nxt, fun b l hb => by rw [← hs.next]; exact S.new b l hb, S.size, fun k hk hn => S.frame k hk fun ⟨b, r, l, k1, k2, k3, k4⟩ => hn ⟨b, r, l, hs.rows b r k1, k2, k3, k4⟩, fun k hk => ?_, fun k hk => ?_, S.os, S.tape, S.output⟩, h4⟩
  · rcases S.evo k hk with h | ⟨b, r, l, k1, k2, k3, k4⟩
    · exact .inl h
    · exact .inr ⟨b, r, l, hs.rows b r k1, k2, k3, k4⟩
  · rcases S.evl k hk with h | ⟨b, r, l, k1, k3, k4⟩
    · exact .inl h
    · exact .inr ⟨b, r, l, hs.rows b r k1, k3, k4⟩

structure Memo where
  g : FuncId
  args : List AV
  M : Mem
  x : AV
  N : Mem

def Memo.Ok (P : Program) (e : Memo) : Prop := CallA P e.g e.args e.M fun y N => y = e.x ∧ N = e.N

/-- What is to be seen in the kernel of a memo. -/
def Memo.chk (T : Tab) (orc : OrcP) (mls : FuncId → Bool) (L n : Nat) (e : Memo) : Bool := match evalH T orc mls L n e.g e.args e.M with
  | some (y, N) => sameAV y e.x && subM e.N N
  | none => false

theorem Memo.ok_of {T : Tab} (ok : T.Ok) (hmix : T.P.follows .mixedOrders = true) (fns : FnsOk T) {orc : OrcP} (ho : OrcPOk T orc) {mls : FuncId → Bool} {L n : Nat} {e : Memo} (h : e.chk T orc mls L n = true) : e.Ok T.P := by
  unfold Memo.chk at h
  split at h
  · rename_i y N he
    rw [Bool.and_eq_true] at h
    have h1 := sameAV_eq _ _ h.1
    have h2 := subM_ok h.2
    refine (evalH_ok ok hmix fns ho n e.g e.args e.M y N he).sub ?_
    rintro y' N' ⟨rfl, rfl⟩
    exact ⟨e.N, h2, h1, rfl⟩
  · cases h

def findMemo : List Memo → FuncId → List AV → Mem → Option (AV × Mem)
  | [], _, _, _ => none
  | e :: r, g, args, M => cond (Nat.beq e.g g && (sameAVs e.args args && subM e.M M)) (some (e.x, e.N)) (findMemo r g args M)

theorem findMemo_ok {P : Program} : ∀ {l : List Memo} {g : FuncId} {args : List AV} {M : Mem} {x : AV} {N : Mem}, (∀ e ∈ l, e.Ok P) → findMemo l g args M = some (x, N) → CallA P g args M fun y N' => y = x ∧ N' = N
  | [], _, _, _, _, _, _, h => by cases h
  | e :: r, g, args, M, x, N, hl, h => by
    unfold findMemo at h
    rw [cond_eq_ite] at h
    split at h
    · rename_i hc
      simp only [Bool.and_eq_true] at hc
      have h1 : e.g = g := by simpa using hc.1
      have h2 := sameAVs_eq _ _ hc.2.1
      have h3 := subM_ok hc.2.2
      simp only [Option.some.injEq, Prod.mk.injEq] at h
      obtain ⟨rfl, rfl⟩ := h
      subst h1 h2
      exact (hl e (by simp)).more h3
    · exact findMemo_ok (fun e he => hl e (by simp [he])) h

/-- Memos ahead of other oracles; only calls of some functions are looked up. -/
def withMemos (ms : FuncId → Bool) (l : List Memo) (orc : OrcP) : OrcP := fun g args M => cond (ms g) (match findMemo l g args M with
  | some r => some r
  | none => orc g args M) (orc g args M)
theorem withMemos_ok {T : Tab} {ms : FuncId → Bool} {l : List Memo} {orc : OrcP} (ho : OrcPOk T orc) (hl : ∀ e ∈ l, e.Ok T.P) : OrcPOk T (withMemos ms l orc) := by
  intro g args M x N h
  unfold withMemos at h
  rw [cond_eq_ite] at h
  split at h
  · split at h
    · rename_i r hr
      injection h with h; subst h
      exact findMemo_ok hl hr
    · exact ho g args M x N h
  · exact ho g args M x N h

/-- How memories are written down. -/
def v8 (n : Nat) : AV := .val (.int .u8 n)
def vi (z : Int) : AV := .val (.int .i64 z)
def vb (b : Bool) : AV := .val (.bool b)
def b8 (l : List Nat) (r : List AV) : List AV := l.foldr (fun n r => v8 n :: r) r
def r8 : Nat → Nat → List AV → List AV
  | 0, _, r => r
  | n + 1, v, r => v8 v :: r8 n v r
def rowsOf (l : List (Nat × Row)) : Tr Row := l.foldr (fun p t => t.set p.1 (some p.2)) .e

end Go.AM

/- The abstract machine, part 46: a block that is new in the world is taken into memory; keys. -/
namespace Go.AM
open Go.ChangeMaps

/-- A block that is new in the world is taken into memory. -/
theorem Stp.adopt {ι : Inj} {M : Mem} {w w' : World} (S : Stp ι M w ι M w') {g size : Nat} {o : Obj} (hg : w.heap.size ≤ g) (ho : w'.heap[g]? = some o) {r : Row} (hr : RowR (fun b => if b = M.next then some ⟨g, 0, size⟩ else ι b) ⟨g, 0, size⟩ r (some o)) (hlt : ∀ k, LvAt ι M k → k < w.heap.size) :
    Stp ι M w (fun b => if b = M.next then some ⟨g, 0, size⟩ else ι b) (M.new r) w' := by
  have R := S.rel
  have hext : Ext ι (fun b => if b = M.next then some ⟨g, 0, size⟩ else ι b) := fun b l' h => by
    have := R.dom b l' h
    have hne : ¬ (b = M.next) := by omega
    simp [hne, h]
  refine ⟨⟨fun b l h => ?_, fun b s h => ?_, fun b b' r1 r2 l1 l2 h1 h2 hl1 hl2 he => ?_, fun b l h => ?_⟩, hext, by simp, new_upd, S.size, S.frame, ?_, ?_, S.os, S.tape, S.output⟩
  · by_cases hb : b = M.next
    · simp [hb]
    · simp only [hb, if_false] at h
      have := R.dom b l h
      simp; omega
  · rw [Mem.get_new] at h
    by_cases hb : b = M.next
    · simp only [hb, if_true, Option.some.injEq] at h
      subst h
      exact ⟨⟨g, 0, size⟩, by simp [hb], by simp only [ho]; exact hr⟩
    · simp only [hb, if_false] at h
      obtain ⟨l, hl, hrow⟩ := R.live b s h
      exact ⟨l, by simp [hb, hl], hrow.mono hext⟩
  · rw [Mem.get_new] at h1 h2
    have low : ∀ b r l, M.get b = some r → ι b = some l → l.blk < w.heap.size := fun b r l h hl => hlt _ ⟨b, r, l, h, hl, rfl⟩
    by_cases hb1 : b = M.next <;> by_cases hb2 : b' = M.next
    · omega
    · simp only [hb1, if_true, Option.some.injEq] at hl1
      simp only [hb2, if_false] at h2 hl2
      subst hl1
      have := low b' r2 l2 h2 hl2
      simp only at he
      omega
    · simp only [hb2, if_true, Option.some.injEq] at hl2
      simp only [hb1, if_false] at h1 hl1
      subst hl2
      have := low b r1 l1 h1 hl1
      simp only at he
      omega
    · simp only [hb1, if_false] at h1 hl1
      simp only [hb2, if_false] at h2 hl2
      exact R.inj b b' r1 r2 l1 l2 h1 h2 hl1 hl2 he
  · by_cases hb : b = M.next
    · rw [if_pos hb] at h; injection h with h; rw [← h]
    · rw [if_neg hb] at h; exact R.bas b l h
  · rintro k ⟨b, s, l, h1, h2, h3, h4⟩
    rw [Mem.get_new] at h1
    by_cases hb : b = M.next
    · simp only [hb, if_true, Option.some.injEq] at h3
      subst h3
      left; simp only at h4; omega
    · simp only [hb, if_false] at h1 h3
      exact S.evo k ⟨b, s, l, h1, h2, h3, h4⟩
  · rintro k ⟨b, s, l, h1, h3, h4⟩
    rw [Mem.get_new] at h1
    by_cases hb : b = M.next
    · simp only [hb, if_true, Option.some.injEq] at h3
      subst h3
      left; simp only at h4; omega
    · simp only [hb, if_false] at h1 h3
      exact S.evl k ⟨b, s, l, h1, h3, h4⟩

theorem EntR.keys {ι : Inj} : ∀ {es : List (AV × AV)} {ms : List MapEntry} {ks : List Int}, EntR ι es ms → es.map (·.1) = ks.map (fun k => AV.val (.int .i64 k)) → ms.map (·.key) = ks.map (Value.int .i64)
  | _, _, [], .nil, _ => rfl
  | _, _, _ :: _, .nil, h => by simp at h
  | _, _, [], .cons _ _ _ _ _ _ _ _, h => by simp at h
  | _, _, k :: ks, .cons x y m es ms hk hv hs, h => by
    simp only [List.map_cons, List.cons.injEq] at h ⊢
    obtain ⟨rfl, h⟩ := h
    refine ⟨?_, EntR.keys hs h⟩
    generalize m.key = u at hk
    cases hk
    rfl

end Go.AM

/- The abstract machine, part 47: what was reckoned out at an empty memory, elsewhere: blocks by other numbers. -/
namespace Go.AM

mutual
/-- All blocks' numbers further on. -/
def sh (k : Nat) : AV → AV
  | .val v => .val v
  | .ptr b o => .ptr (k + b) o
  | .sl b o n c e => .sl (k + b) o n c e
  | .map b => .map (k + b)
  | .fn f a b => .fn f (shs k a) (shs k b)
  | .agg l => .agg (shs k l)
  | .tup l => .tup (shs k l)
def shs (k : Nat) : List AV → List AV
  | [] => []
  | x :: r => sh k x :: shs k r
end
mutual
/-- All blocks' numbers below a bound. -/
def bnd (n : Nat) : AV → Bool
  | .val _ => true
  | .ptr b _ => Nat.blt b n
  | .sl b _ _ _ _ => Nat.blt b n
  | .map b => Nat.blt b n
  | .fn _ a b => bnds n a && bnds n b
  | .agg l => bnds n l
  | .tup l => bnds n l
def bnds (n : Nat) : List AV → Bool
  | [] => true
  | x :: r => bnd n x && bnds n r
end
def shE (k : Nat) (es : List (AV × AV)) : List (AV × AV) := es.map fun e => (sh k e.1, sh k e.2)
def shR (k : Nat) : Row → Row
  | .cells cs rw => .cells (shs k cs) rw
  | .map es => .map (shE k es)
  | .sit s p => .sit s p
def bndE (n : Nat) : List (AV × AV) → Bool
  | [] => true
  | e :: r => bnd n e.1 && (bnd n e.2 && bndE n r)
def bndR (n : Nat) : Row → Bool
  | .cells cs _ => bnds n cs
  | .map es => bndE n es
  | .sit _ _ => true
theorem shs_length (k : Nat) : ∀ l : List AV, (shs k l).length = l.length
  | [] => rfl
  | x :: r => by simp [shs, shs_length k r]
theorem shR_rw (k : Nat) (r : Row) : (shR k r).rw = r.rw := by cases r <;> rfl

mutual
theorem VR.to {ι ι' : Inj} {n k : Nat} (hi : ∀ b l, b < n → ι b = some l → ι' (k + b) = some l) : ∀ {x : AV} {v : Value}, VR ι x v → bnd n x = true → VR ι' (sh k x) v
  | _, _, .val v h, _ => .val v h
  | _, _, .ptr b o l h, hb => .ptr (k + b) o l (hi b l (by simpa [bnd] using hb) h)
  | _, _, .slE b o m c l h, hb => .slE (k + b) o m c l (hi b l (by simpa [bnd] using hb) h)
  | _, _, .slI b o m c e c' l h hc hs, hb => .slI (k + b) o m c e c' l (hi b l (by simpa [bnd] using hb) h) hc hs
  | _, _, .slZ b o e x l h, hb => .slZ (k + b) o e x l (hi b l (by simpa [bnd] using hb) h)
  | _, _, .map b l h, hb => .map (k + b) l (hi b l (by simpa [bnd] using hb) h)
  | _, _, .fn f fs cs vf vc hf hc, hb => by
    simp only [bnd, Bool.and_eq_true] at hb
    exact .fn f _ _ vf vc (VRs.to hi hf hb.1) (VRs.to hi hc hb.2)
  | _, _, .agg cs vs h, hb => .agg _ vs (VRs.to hi h hb)
  | _, _, .tup cs vs h, hb => .tup _ vs (VRs.to hi h hb)
theorem VRs.to {ι ι' : Inj} {n k : Nat} (hi : ∀ b l, b < n → ι b = some l → ι' (k + b) = some l) : ∀ {xs : List AV} {vs : List Value}, VRs ι xs vs → bnds n xs = true → VRs ι' (shs k xs) vs
  | _, _, .nil, _ => .nil
  | _, _, .cons x v xs vs h hs, hb => by
    simp only [bnds, Bool.and_eq_true] at hb
    exact .cons _ v _ vs (VR.to hi h hb.1) (VRs.to hi hs hb.2)
end

mutual
theorem VR.fro {ι ι' : Inj} {n k : Nat} (hi : ∀ b l, b < n → ι' (k + b) = some l → ι b = some l) : ∀ {x : AV} {v : Value}, VR ι' (sh k x) v → bnd n x = true → VR ι x v
  | .val _, _, h, _ => by cases h; exact .val _ ‹_›
  | .ptr b o, _, h, hb => by cases h with | ptr _ _ l h => exact .ptr b o l (hi b l (by simpa [bnd] using hb) h)
  | .sl b o m c e, _, h, hb => by
    have hlt : b < n := by simpa [bnd] using hb
    cases h with
    | slE _ _ _ _ l h => exact .slE b o m c l (hi b l hlt h)
    | slI _ _ _ _ e c' l h hc hs => exact .slI b o m c e c' l (hi b l hlt h) hc hs
    | slZ _ _ e x l h => exact .slZ b o e x l (hi b l hlt h)
  | .map b, _, h, hb => by cases h with | map _ l h => exact .map b l (hi b l (by simpa [bnd] using hb) h)
  | .fn f a c, _, h, hb => by
    simp only [bnd, Bool.and_eq_true] at hb
    cases h with | fn _ _ _ vf vc hf hc => exact .fn f a c vf vc (VRs.fro hi hf hb.1) (VRs.fro hi hc hb.2)
  | .agg l, _, h, hb => by cases h with | agg _ vs h => exact .agg l vs (VRs.fro hi h hb)
  | .tup l, _, h, hb => by cases h with | tup _ vs h => exact .tup l vs (VRs.fro hi h hb)
theorem VRs.fro {ι ι' : Inj} {n k : Nat} (hi : ∀ b l, b < n → ι' (k + b) = some l → ι b = some l) : ∀ {xs : List AV} {vs : List Value}, VRs ι' (shs k xs) vs → bnds n xs = true → VRs ι xs vs
  | [], _, h, _ => by cases h; exact .nil
  | x :: xs, _, h, hb => by
    simp only [bnds, Bool.and_eq_true] at hb
    cases h with | cons _ v _ vs h hs => exact .cons x v xs vs (VR.fro hi h hb.1) (VRs.fro hi hs hb.2)
end

theorem EntR.to {ι ι' : Inj} {n k : Nat} (hi : ∀ b l, b < n → ι b = some l → ι' (k + b) = some l) : ∀ {es : List (AV × AV)} {ms : List MapEntry}, EntR ι es ms → bndE n es = true → EntR ι' (shE k es) ms
  | _, _, .nil, _ => .nil
  | _, _, .cons x y m es ms hk hv hs, hb => by
    simp only [bndE, Bool.and_eq_true] at hb
    exact .cons _ _ m _ ms (hk.to hi hb.1) (hv.to hi hb.2.1) (EntR.to hi hs hb.2.2)
theorem EntR.fro {ι ι' : Inj} {n k : Nat} (hi : ∀ b l, b < n → ι' (k + b) = some l → ι b = some l) : ∀ {es : List (AV × AV)} {ms : List MapEntry}, EntR ι' (shE k es) ms → bndE n es = true → EntR ι es ms
  | [], _, h, _ => by cases h; exact .nil
  | e :: es, _, h, hb => by
    simp only [bndE, Bool.and_eq_true] at hb
    cases h with
    | cons _ _ m _ ms hk hv hs => exact .cons _ _ m _ ms (hk.fro hi hb.1) (hv.fro hi hb.2.1) (EntR.fro hi hs hb.2.2)

theorem RowR.to {ι ι' : Inj} {n k : Nat} (hi : ∀ b l, b < n → ι b = some l → ι' (k + b) = some l) {l : Loc} {r : Row} {o : Option Obj} (h : RowR ι l r o) (hb : bndR n r = true) : RowR ι' l (shR k r) o := by
  cases r with
  | cells cs rw =>
    cases o with
    | none => exact h.elim
    | some o =>
      cases o <;> try (exact h.elim)
      refine ⟨h.1, by rw [shs_length]; exact h.2.1, ?_, h.2.2.2⟩
      rw [shs_length]
      exact h.2.2.1.to hi hb
  | map es =>
    cases o with
    | none => exact h.elim
    | some o =>
      cases o <;> try (exact h.elim)
      exact ⟨h.1.to hi hb, h.2⟩
  | sit s p =>
    cases o with
    | none => exact h.elim
    | some o =>
      cases o <;> first | exact h.elim | exact h
theorem RowR.fro {ι ι' : Inj} {n k : Nat} (hi : ∀ b l, b < n → ι' (k + b) = some l → ι b = some l) {l : Loc} {r : Row} {o : Option Obj} (h : RowR ι' l (shR k r) o) (hb : bndR n r = true) : RowR ι l r o := by
  cases r with
  | cells cs rw =>
    cases o with
    | none => exact h.elim
    | some o =>
      cases o <;> try (exact h.elim)
      obtain ⟨h1, h2, h3, h4⟩ := h
      rw [shs_length] at h2 h3
      exact ⟨h1, h2, h3.fro hi hb, h4⟩
  | map es =>
    cases o with
    | none => exact h.elim
    | some o =>
      cases o <;> try (exact h.elim)
      exact ⟨h.1.fro hi hb, h.2⟩
  | sit s p =>
    cases o with
    | none => exact h.elim
    | some o =>
      cases o <;> first | exact h.elim | exact h

/-! ## A memory written down, put behind another one -/

def addRows (k : Nat) (L : List (Nat × Row)) (t : Tr Row) : Tr Row := L.foldr (fun p t => t.set (k + p.1) (some (shR k p.2))) t
theorem rowsOf_cons (p : Nat × Row) (L : List (Nat × Row)) (b : Nat) : (rowsOf (p :: L)).get b = if b = p.1 then some p.2 else (rowsOf L).get b := by
  show ((rowsOf L).set p.1 (some p.2)).get b = _
  rw [Tr.get_set]
theorem addRows_cons (k : Nat) (p : Nat × Row) (L : List (Nat × Row)) (t : Tr Row) (b : Nat) : (addRows k (p :: L) t).get b = if b = k + p.1 then some (shR k p.2) else (addRows k L t).get b := by
  show ((addRows k L t).set (k + p.1) _).get b = _
  rw [Tr.get_set]
theorem addRows_new (k : Nat) : ∀ (L : List (Nat × Row)) (t : Tr Row) {b : Nat} {r : Row}, (rowsOf L).get b = some r → (addRows k L t).get (k + b) = some (shR k r)
  | [], t, b, r, h => by rw [show (rowsOf [] : Tr Row) = .e from rfl, Tr.get_e] at h; cases h
  | p :: L, t, b, r, h => by
    rw [rowsOf_cons] at h
    rw [addRows_cons]
    split at h
    · rename_i he
      rw [if_pos (by rw [he])]
      injection h with h; rw [h]
    · rename_i he
      rw [if_neg (by omega)]
      exact addRows_new k L t h
theorem addRows_get (k : Nat) : ∀ (L : List (Nat × Row)) (t : Tr Row) {b : Nat} {r : Row}, (addRows k L t).get b = some r → (∃ b0 r0, b = k + b0 ∧ (rowsOf L).get b0 = some r0 ∧ r = shR k r0) ∨ t.get b = some r
  | [], t, b, r, h => .inr h
  | p :: L, t, b, r, h => by
    rw [addRows_cons] at h
    split at h
    · rename_i he
      injection h with h
      exact .inl ⟨p.1, p.2, he, by rw [rowsOf_cons, if_pos rfl], h.symm⟩
    · rename_i he
      rcases addRows_get k L t h with ⟨b0, r0, h1, h2, h3⟩ | h
      · exact .inl ⟨b0, r0, h1, by rw [rowsOf_cons, if_neg (by omega)]; exact h2, h3⟩
      · exact .inr h

def bndL (n : Nat) : List (Nat × Row) → Bool
  | [] => true
  | p :: r => Nat.blt p.1 n && (bndR n p.2 && bndL n r)
theorem bndL_get {n : Nat} : ∀ {L : List (Nat × Row)}, bndL n L = true → ∀ {b : Nat} {r : Row}, (rowsOf L).get b = some r → b < n ∧ bndR n r = true
  | [], _, b, r, h => by rw [show (rowsOf [] : Tr Row) = .e from rfl, Tr.get_e] at h; cases h
  | p :: L, hl, b, r, h => by
    simp only [bndL, Bool.and_eq_true, Nat.blt_eq] at hl
    rw [rowsOf_cons] at h
    split at h
    · rename_i he
      injection h with h
      rw [he, ← h]
      exact ⟨hl.1, hl.2.1⟩
    · exact bndL_get hl.2.2 h

/-- A memory, behind another one's blocks. -/
def behind (M : Mem) (n : Nat) (L : List (Nat × Row)) : Mem := ⟨M.next + n, addRows M.next L M.rows⟩

theorem CallA.behind {P : Program} {f : FuncId} {args : List AV} {x : AV} {n : Nat} {L : List (Nat × Row)} (h : CallA P f args ⟨0, .e⟩ fun y N => y = x ∧ N = ⟨n, rowsOf L⟩)
    (ha : ∀ ι ι' vs, VRs ι args vs → VRs ι' args vs) (hx : bnd n x = true) (hL : bndL n L = true) (M : Mem) : CallA P f args M fun y N => y = sh M.next x ∧ N = Go.AM.behind M n L := by
  intro ι w vs hvs R
  have R0 : Rel (fun _ => none) ⟨0, .e⟩ w :=
    ⟨fun b l h => (nomatch h), fun b r h => (by simp [Mem.get, Tr.get_e] at h), fun b b' r r' l l' h => (by simp [Mem.get, Tr.get_e] at h), fun b l h => (nomatch h)⟩
  refine (h (fun _ => none) w vs (ha _ _ _ hvs) R0).mono ?_
  rintro e w' ⟨ι1, u, y, N, rfl, h2, S, rfl, rfl⟩
  have hf : ∀ k, k < w.heap.size → w'.heap[k]? = w.heap[k]? := fun k hk => S.frame k hk fun ⟨b, r, l, g, _⟩ => by simp [Mem.get, Tr.get_e] at g
  have hwf : ∀ b r, M.get b = some r → b < M.next := fun b r hb => by obtain ⟨l, h1, _⟩ := R.live b r hb; exact R.dom b l h1
  have hι : ∀ b l, b < n → ι1 b = some l → (fun c => if c < M.next then ι c else ι1 (c - M.next)) (M.next + b) = some l := fun b l _ hb => by
    have : ¬ M.next + b < M.next := by omega
    simp only [this, if_false, Nat.add_sub_cancel_left]
    exact hb
  have low : ∀ b l, ι b = some l → (fun c => if c < M.next then ι c else ι1 (c - M.next)) b = some l := fun b l hb => by
    have := R.dom b l hb
    simp only [this, if_true]; exact hb
  have hget : ∀ b r, (Go.AM.behind M n L).get b = some r → (∃ b0 r0, b = M.next + b0 ∧ (rowsOf L).get b0 = some r0 ∧ r = shR M.next r0) ∨ (b < M.next ∧ M.get b = some r) := fun b r hb => by
    rcases addRows_get _ _ _ hb with h | h
    · exact .inl h
    · exact .inr ⟨hwf b r h, h⟩
  have hnew : ∀ b0 r0 l, (rowsOf L).get b0 = some r0 → ι1 b0 = some l → w.heap.size ≤ l.blk := fun b0 r0 l h1 h3 => by
    rcases S.evl l.blk ⟨b0, r0, l, h1, h3, rfl⟩ with h | ⟨b, r, l', g, _⟩
    · exact h
    · simp [Mem.get, Tr.get_e] at g
  have ge : ∀ b0 l, (fun c => if c < M.next then ι c else ι1 (c - M.next)) (M.next + b0) = some l → ι1 b0 = some l := fun b0 l hb => by
    have : ¬ M.next + b0 < M.next := by omega
    simp only [this, if_false, Nat.add_sub_cancel_left] at hb
    exact hb
  have lt : ∀ b l, b < M.next → (fun c => if c < M.next then ι c else ι1 (c - M.next)) b = some l → ι b = some l := fun b l hb h => by
    simp only [hb, if_true] at h; exact h
  refine ⟨fun c => if c < M.next then ι c else ι1 (c - M.next), u, _, _, rfl, h2.to hι hx, ⟨⟨fun b l hb => ?_, fun b r hb => ?_, fun b b' r r' l l' hb hb' hl hl' he => ?_, fun b l hb => ?_⟩, low, by show M.next ≤ M.next + n; omega, fun b l hb => ?_, S.size, fun k hk _ => hf k hk, fun k hk => ?_, fun k hk => ?_, S.os, S.tape, S.output⟩, rfl, rfl⟩
  · show b < M.next + n
    by_cases hlt : b < M.next
    · omega
    · simp only [hlt, if_false] at hb
      have : b - M.next < n := S.rel.dom _ l hb
      omega
  · rcases hget b r hb with ⟨b0, r0, rfl, h3, rfl⟩ | ⟨h3, h4⟩
    · obtain ⟨l, h5, h6⟩ := S.rel.live b0 r0 h3
      have hbd := bndL_get hL h3
      exact ⟨l, hι b0 l hbd.1 h5, h6.to hι hbd.2⟩
    · obtain ⟨l, h5, h6⟩ := R.live b r h4
      exact ⟨l, low b l h5, by rw [hf l.blk (row_lt h6)]; exact h6.mono low⟩
  · rcases hget b r hb with ⟨b0, r0, rfl, h3, rfl⟩ | ⟨h3, h4⟩ <;> rcases hget b' r' hb' with ⟨b1, r1, rfl, h5, rfl⟩ | ⟨h5, h6⟩
    · rw [S.rel.inj b0 b1 r0 r1 l l' h3 h5 (ge _ _ hl) (ge _ _ hl') he]
    · have h7 := hnew b0 r0 l h3 (ge _ _ hl)
      have h8 : l'.blk < w.heap.size := LvAt.lt R ⟨b', r', l', h6, lt _ _ h5 hl', rfl⟩
      omega
    · have h7 := hnew b1 r1 l' h5 (ge _ _ hl')
      have h8 : l.blk < w.heap.size := LvAt.lt R ⟨b, r, l, h4, lt _ _ h3 hl, rfl⟩
      omega
    · exact R.inj b b' r r' l l' h4 h6 (lt _ _ h3 hl) (lt _ _ h5 hl') he
  · by_cases hlt : b < M.next
    · simp only [hlt, if_true] at hb; exact R.bas b l hb
    · simp only [hlt, if_false] at hb; exact S.rel.bas _ l hb
  · by_cases hlt : b < M.next
    · simp only [hlt, if_true] at hb; exact .inl hb
    · exact .inr (by omega)
  · obtain ⟨b, r, l, h3, h4, h5, rfl⟩ := hk
    rcases hget b r h3 with ⟨b0, r0, rfl, h6, rfl⟩ | ⟨h6, h7⟩
    · exact .inl (hnew b0 r0 l h6 (ge _ _ h5))
    · exact .inr ⟨b, r, l, h7, h4, lt _ _ h6 h5, rfl⟩
  · obtain ⟨b, r, l, h3, h5, rfl⟩ := hk
    rcases hget b r h3 with ⟨b0, r0, rfl, h6, rfl⟩ | ⟨h6, h7⟩
    · exact .inl (hnew b0 r0 l h6 (ge _ _ h5))
    · exact .inr ⟨b, r, l, h7, lt _ _ h6 h5, rfl⟩

/-- What memory looks like from further on. -/
structure Bears (M : Mem) (k n : Nat) (L : List (Nat × Row)) : Prop where
  rows : ∀ b r, (rowsOf L).get b = some r → M.get (k + b) = some (shR k r)
  nxt : k + n ≤ M.next

theorem Bears.behind (M : Mem) (n : Nat) (L : List (Nat × Row)) : Bears (Go.AM.behind M n L) M.next n L := ⟨fun b r h => addRows_new _ _ _ h, Nat.le_refl _⟩

/-- A call that leaves a memory as it was, at any memory that bears it. -/
theorem CallA.bears {P : Program} {f : FuncId} {args : List AV} {x : AV} {n : Nat} {L : List (Nat × Row)} (h : CallA P f args ⟨n, rowsOf L⟩ fun y N => y = x ∧ N = ⟨n, rowsOf L⟩)
    (ha : bnds n args = true) (hx : ∀ ι v, VR ι x v → ∀ ι', VR ι' x v) (hL : bndL n L = true) {M : Mem} {k : Nat} (hM : Bears M k n L) : CallA P f (shs k args) M fun y N => y = x ∧ N = M := by
  intro ι w vs hvs R
  have f1 : ∀ b l, b < n → ι (k + b) = some l → (fun c => if c < n then ι (k + c) else none) b = some l := fun b l hb h => by simp only [hb, if_true]; exact h
  have f2 : ∀ b l, (fun c => if c < n then ι (k + c) else none) b = some l → b < n ∧ ι (k + b) = some l := fun b l h => by
    by_cases hb : b < n
    · simp only [hb, if_true] at h; exact ⟨hb, h⟩
    · simp only [hb, if_false] at h; cases h
  have R1 : Rel (fun c => if c < n then ι (k + c) else none) ⟨n, rowsOf L⟩ w := by
    refine ⟨fun b l hb => (f2 b l hb).1, fun b r hb => ?_, fun b b' r r' l l' hb hb' hl hl' he => ?_, fun b l hb => R.bas _ l (f2 b l hb).2⟩
    · have hbd := bndL_get hL hb
      obtain ⟨l, h1, h3⟩ := R.live _ _ (hM.rows b r hb)
      exact ⟨l, f1 b l hbd.1 h1, h3.fro f1 hbd.2⟩
    · have := R.inj _ _ _ _ l l' (hM.rows b r hb) (hM.rows b' r' hb') (f2 b l hl).2 (f2 b' l' hl').2 he
      omega
  refine (h _ w vs (hvs.fro f1 ha) R1).mono ?_
  rintro e w' ⟨ι1, u, y, N, rfl, h2, S, rfl, rfl⟩
  have back : ∀ b l, b < n → ι1 b = some l → ι (k + b) = some l := fun b l hb hl => by
    rcases S.new b l hl with h | h
    · exact (f2 b l h).2
    · have h : n ≤ b := h
      omega
  have rw1 : ∀ q, RwAt (fun c => if c < n then ι (k + c) else none) ⟨n, rowsOf L⟩ q → RwAt ι M q := fun q ⟨b, r, l, h1, h3, h4, h5⟩ => ⟨k + b, shR k r, l, hM.rows b r h1, by rw [shR_rw]; exact h3, (f2 b l h4).2, h5⟩
  refine ⟨ι, u, y, M, rfl, hx _ _ h2 ι, ⟨⟨R.dom, fun b r hb => ?_, R.inj, R.bas⟩, Ext.refl ι, Nat.le_refl _, fun _ _ h => .inl h, S.size, fun q hq hn => S.frame q hq fun h => hn (rw1 q h), fun _ h => .inr h, fun _ h => .inr h, S.os, S.tape, S.output⟩, rfl, rfl⟩
  obtain ⟨l, h1, h3⟩ := R.live b r hb
  refine ⟨l, h1, ?_⟩
  by_cases hin : ∃ b0 r0, b = k + b0 ∧ (rowsOf L).get b0 = some r0
  · obtain ⟨b0, r0, rfl, h4⟩ := hin
    have hbd := bndL_get hL h4
    have hr : r = shR k r0 := by rw [hM.rows b0 r0 h4] at hb; injection hb with hb; exact hb.symm
    subst hr
    obtain ⟨l', h5, h6⟩ := S.rel.live b0 r0 h4
    have h7 := back b0 l' hbd.1 h5
    rw [h1] at h7
    injection h7 with h7
    subst h7
    exact h6.to back hbd.2
  · have hfr : w'.heap[l.blk]? = w.heap[l.blk]? := S.frame _ (row_lt h3) fun ⟨b0, r0, l0, h4, _, h5, h6⟩ => hin ⟨b0, r0, R.inj b (k + b0) r _ l l0 hb (hM.rows b0 r0 h4) h1 (f2 b0 l0 h5).2 h6.symm, h4⟩
    rw [hfr]
    exact h3

end Go.AM

/- The abstract machine, part 48: a slice that grows by structs that are all the same; what calls were reckoned to answer. -/
namespace Go.AM
/-! ## Slices that grow -/

def GrK (k : Nat) (M : Mem) (x : AV) (n : Nat) (vs : List AV) : Prop := (x = .val (.slice none 0 0) ∧ n = 0 ∧ vs = []) ∨ ∃ b, Grown k M x n vs b

theorem GrK.at {k : Nat} {M : Mem} {x : AV} {n : Nat} {vs : List AV} (h : GrK k M x n vs) : SlAt k M x n vs := by
  rcases h with ⟨rfl, rfl, rfl⟩ | ⟨b, h⟩
  · exact SlAt.nil
  · exact h.at
theorem GrK.mono {k : Nat} {M N : Mem} {x : AV} {n : Nat} {vs : List AV} (h : GrK k M x n vs) (hk : ∀ c r, inBlk x c → M.get c = some r → N.get c = some r) : GrK k N x n vs := by
  rcases h with h | ⟨b, h1, h2, h3, h4⟩
  · exact .inl h
  · exact .inr ⟨b, h1, h2, h3, hk b _ (by rw [h1]; exact ⟨by omega, rfl⟩) h4⟩

theorem GrK.grow {T : Tab} {t e : TypeId} {te : TI} {k : Nat} (ht : T.ty.get t = some ⟨.sli e, 1, 24, [.slice none 0 0], none⟩) (he : T.ty.get e = some te) (hs : te.size = k) (hk : 0 < k) (hbt : te.bytes ≤ 200) {M : Mem} {x : AV} {n : Nat} {vs : List AV}
    (hw : M.WF) (h : GrK k M x n vs) (us : List AV) (hul : us.length = k) (hu : ∀ v ∈ us, v.one = true) (hb : n ≤ 1000) :
    ∃ x' N, evAppend T t t x (.sl M.next 0 1 1 none) (M.new (.cells us true)) = some (x', N) ∧ GrK k N x' (n + 1) (vs ++ us) ∧ N.WF ∧ M.next ≤ N.next ∧ (∀ c, c < M.next → ¬ inBlk x c → N.get c = M.get c) ∧ ∀ c, inBlk x' c → M.next ≤ c := by
  have hw1 := hw.new (.cells us true)
  have hsl : SlAt k (M.new (.cells us true)) (.sl M.next 0 1 1 none) 1 us := ⟨by rw [hul, Nat.one_mul], .inr ⟨_, _, _, _, rfl, ⟨Nat.le_refl _, .inl rfl⟩, .inr ⟨us, true, by rw [Mem.get_new, if_pos rfl], by rw [hul]; omega, by rw [List.drop_zero, Nat.one_mul, ← hul, List.take_length]⟩⟩⟩
  have hroom : ∀ m, m ≤ 2000 → (3 * m + 4096) * te.bytes ≤ 281474976710656 := fun m hm => by
    have : (3 * m + 4096) * te.bytes ≤ (3 * 2000 + 4096) * 200 := Nat.mul_le_mul (by omega) hbt
    omega
  rcases h with ⟨rfl, rfl, rfl⟩ | ⟨b, hg⟩
  · obtain ⟨N, h1, rfl⟩ := append_nil (T := T) (k := k) ht rfl he hs hsl (by omega) ⟨hroom 1 (by omega), by omega⟩
    refine ⟨_, _, h1, .inr ⟨M.next + 1, rfl, by omega, by rw [List.nil_append, hul]; omega, ?_⟩, hw1.new _, by show M.next ≤ M.next + 1 + 1; omega, fun c hc _ => ?_, fun c hc => by rw [← hc.2]; exact Nat.le_succ _⟩
    · rw [List.nil_append, Mem.get_new, if_pos (by rfl)]
    · rw [Mem.get_new, if_neg (by show c ≠ M.next + 1; omega), Mem.get_new, if_neg (by omega)]
  · have hbM := hw _ _ hg.2.2.2
    have hg1 : Grown k (M.new (.cells us true)) x n vs b := ⟨hg.1, hg.2.1, hg.2.2.1, by rw [Mem.get_new, if_neg (by omega)]; exact hg.2.2.2⟩
    obtain ⟨N, h1, rfl⟩ := append_grown (T := T) (k := k) ht rfl he hs hg1 hsl (by omega) hu ⟨hroom _ (by omega), by omega⟩
    refine ⟨_, _, h1, .inr ⟨M.next + 1, rfl, by omega, by rw [List.length_append, hg.2.2.1, hul, Nat.add_mul, Nat.one_mul], ?_⟩, (hw1.kill _).new _, by show M.next ≤ M.next + 1 + 1; omega, fun c hc hn => ?_, fun c hc => by rw [← hc.2]; exact Nat.le_succ _⟩
    · rw [Mem.get_new, if_pos (by rfl)]
    · have hcb : c ≠ b := fun he => hn (by rw [he, hg.1]; exact ⟨by have := hg.2.1; omega, rfl⟩)
      rw [Mem.get_new, if_neg (by show c ≠ M.next + 1; omega), Mem.get_kill, if_neg hcb, Mem.get_new, if_neg (by omega)]

/-- An element of a slice of structs. -/
theorem SlAt.agg {T : Tab} {t e : TypeId} {ti te : TI} {k : Nat} {M : Mem} {x : AV} {n : Nat} {vs : List AV} (h : SlAt k M x n vs) (ht : T.ty.get t = some ti) (hk : ti.k = .sli e) (he : T.ty.get e = some te) (hs : te.size = k) (ha : te.isAgg = true) {i : Nat} (hi : i < n) :
    ∃ b o, (∀ N, eIA T t x (.val (.int .i64 (i : Int))) N = some (.ptr b o, N)) ∧ inBlk x b ∧ eLd T e (.ptr b o) M = some (.agg ((vs.drop (i * k)).take k), M) := by
  obtain ⟨b, o, h1, h0, _, h2⟩ := SlAt.at h ht hk he hs hi (k' := .i64)
  refine ⟨b, o, fun N => eIA_some h1, h0, eLd_some ?_⟩
  unfold evLoad
  rw [he]
  simp only [ha, cond_true, hs, h2, Option.map_some]

end Go.AM

/- The abstract machine, part 49: a function cut into parts. -/
namespace Go.AM

/-- Pieces of code, one behind the other, up to a cut. -/
def wzCh (T : Tab) : List (An × Code) → St → (St → Prop) → (Ex → St → Prop) → Prop
  | [], st, G, _ => G st
  | p :: l, st, G, Q => wZ T p.1 p.2 st (andThen (fun s => wzCh T l s G Q) Q)
def chC : List (An × Code) → Code → Code
  | [], r => r
  | p :: l, r => .seq p.2 (chC l r)
def asgCh : List (An × Code) → List Tmp
  | [] => []
  | p :: l => asgOf p.1 p.2 ++ asgCh l
def anBs (T : Tab) (nt : Nat) : List (An × Code) → Bool
  | [] => true
  | p :: l => anB T nt p.1 p.2 && anBs T nt l
/-- The k-th piece of a chain; what is behind k pieces. -/
def elC : Nat → Code → Code
  | 0, .seq a _ => a
  | k + 1, .seq _ b => elC k b
  | _, _ => .skip
def tailC : Nat → Code → Code
  | 0, c => c
  | k + 1, .seq _ b => tailC k b
  | _, _ => .skip

theorem wzCh_ok {T : Tab} (ok : T.Ok) (hmix : T.P.follows .mixedOrders = true) {nt : Nat} : ∀ (l : List (An × Code)) {st : St} {G : St → Prop} {Q : Ex → St → Prop} {r : Code}, anBs T nt l = true → nt ≤ st.n → wzCh T l st G Q →
    (∀ s, s.n = st.n → Agr st.t s.t (asgCh l) → G s → WpA T.P r s Q) → WpA T.P (chC l r) st Q
  | [], st, G, Q, r, _, _, h, h2 => h2 st rfl Agr.refl h
  | p :: l, st, G, Q, r, hB, hn, h, h2 => by
    simp only [anBs, Bool.and_eq_true] at hB
    refine wpa_seq (wZ_ok ok hmix hB.1 hn (wZ_agr hB.1 h fun ex s hsn ha hs => ?_))
    cases ex with
    | normal =>
      refine wzCh_ok ok hmix l hB.2 (by rw [hsn]; exact hn) hs fun s2 hn2 ha2 hG => h2 s2 (hn2.trans hsn) (Agr.trans (ha.sub fun i hi => ?_) (ha2.sub fun i hi => ?_)) hG
      · simp [asgCh, hi]
      · simp [asgCh, hi]
    | _ => exact hs

def subN (a b : List Tmp) : Bool := a.all fun i => b.contains i
theorem subN_ok {a b : List Tmp} (h : subN a b = true) : ∀ i ∈ a, i ∈ b := fun i hi => by
  have := List.all_eq_true.1 h i hi
  simpa using this

theorem wpa_cut {T : Tab} (ok : T.Ok) (hmix : T.P.follows .mixedOrders = true) {nt : Nat} {l : List (An × Code)} {r : Code} {st : St} {t0 : Tr AV} {sl : List (Tmp × LK)} {junk : List Tmp} {J : JT (sl.map (·.2))} {Q : Ex → St → Prop}
    (hB : anBs T nt l = true) (hn : nt ≤ st.n) (hbase : ∀ i, i ∉ sl.map (·.1) ++ junk → (st.t.get i).getD undefA = (t0.get i).getD undefA) (hasg : subN (asgCh l) (sl.map (·.1) ++ junk) = true)
    (h1 : wzCh T l st (fun s => apJ (sl.map (·.2)) J (slotsOf s.t sl) 0 s.m) Q)
    (h2 : ∀ js : Nat → Option AV, allL (sl.map (·.2)) fun vs => ∀ m : Mem, apJ (sl.map (·.2)) J vs 0 m → WpA T.P r ⟨st.n, setJ js junk (setS sl vs t0), m⟩ Q) : WpA T.P (chC l r) st Q :=
  wzCh_ok ok hmix l hB hn h1 fun s hsn ha hJ => by
    have hs : SameT (setJ (fun j => s.t.get j) junk (setS sl (slotsOf s.t sl) t0)) s.t := fun i => by
      refine setJ_same (P := fun i => i ∈ junk) (fun j hj => ?_) i (fun hp => hp.2 hp.1)
      refine setS_same (t' := s.t) (P := fun i => i ∈ sl.map (·.1) ++ junk) (fun k hk => ?_) j (fun hp => ?_)
      · rw [← hbase k hk, ha k (fun hm => hk (subN_ok hasg k hm))]
      · have := hp.1
        simp only [List.mem_append] at this
        rcases this with h | h
        · exact hp.2 h
        · exact hj h
    have h3 := allL_elim (h2 fun j => s.t.get j) hJ s.m hJ
    rw [← hsn] at h3
    exact wpa_same h3 hs

theorem base_of {sl1 sl2 : List (Tmp × LK)} {junk1 junk2 : List Tmp} (h : subN (sl1.map (·.1) ++ junk1) (sl2.map (·.1) ++ junk2) = true) (js : Nat → Option AV) (vs : List AV) (t0 : Tr AV) :
    ∀ i, i ∉ sl2.map (·.1) ++ junk2 → ((setJ js junk1 (setS sl1 vs t0)).get i).getD undefA = (t0.get i).getD undefA := fun i hi => by
  have hi1 : i ∉ sl1.map (·.1) ++ junk1 := fun hm => hi (subN_ok h i hm)
  simp only [List.mem_append, not_or] at hi1
  rw [setJ_get hi1.2, setS_get hi1.1]

/-- A function whose body is shown to do so. -/
theorem calla_of {T : Tab} (ok : T.Ok) {f : FuncId} {F : Func} {c : Code} (hf : T.fn.get f = some F) (hb : F.body = some c) {args : List AV} {M : Mem} {Q : AV → Mem → Prop} (h : WpA T.P c (enterA F args M) (retQ T F Q)) : CallA T.P f args M Q := by
  refine calla_body ok hf hb (wpa_mono h ?_)
  intro ex st hq
  cases ex with
  | normal =>
    obtain ⟨x, hx, hq⟩ := bindO_elim hq
    exact ⟨.inl rfl, x, hx, hq⟩
  | ret =>
    obtain ⟨x, hx, hq⟩ := bindO_elim hq
    exact ⟨.inr rfl, x, hx, hq⟩
  | exit i => exact hq.elim
  | goto i => exact hq.elim

end Go.AM
