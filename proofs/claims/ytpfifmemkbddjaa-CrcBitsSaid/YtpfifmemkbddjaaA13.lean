/- The abstract machine, part 13: one operation, whichever it is. -/
import Derived.Test.YtpfifmemkbddjaaA12
set_option linter.unusedVariables false
set_option linter.unusedSimpArgs false
namespace Go.AM

def FrR (ι : Inj) (fr : Tr AV) (a : Act) : Prop := ∀ i, VR ι ((fr.get i).getD undefA) (a.tmps.getD i undef)

theorem opnd_ok {ι : Inj} {fr : Tr AV} {a : Act} (h : FrR ι fr a) : ∀ x, VR ι (opnd fr x) (a.eval x)
  | .tmp i => h i
  | .const v => VR.ofV ι v
  | .global _ => .val _ rfl
  | .func f => .fn f [] [] #[] #[] .nil .nil

theorem opnds_ok {ι : Inj} {fr : Tr AV} {a : Act} (h : FrR ι fr a) : ∀ xs : List Operand, VRs ι (xs.map (opnd fr)) (xs.map a.eval)
  | [] => .nil
  | x :: xs => .cons _ _ _ _ (opnd_ok h x) (opnds_ok h xs)

theorem opair_ok {ι : Inj} {fr : Tr AV} {a : Act} (h : FrR ι fr a) : ∀ xs : List (Nat × Operand), PVR ι (xs.map fun p => (p.1, opnd fr p.2)) (xs.map fun p => (p.1, a.eval p.2))
  | [] => .nil
  | (i, x) :: xs => .cons i _ _ _ _ (opnd_ok h x) (opair_ok h xs)

theorem oopnd_ok {ι : Inj} {fr : Tr AV} {a : Act} (h : FrR ι fr a) : ∀ x : Option Operand, OVR ι (x.map (opnd fr)) (x.map a.eval)
  | none => .none
  | some x => .some _ _ (opnd_ok h x)

def evSliceAt (T : Tab) (t : TypeId) (x : AV) (lo hi mx : Option AV) : Option AV :=
  match T.ty.get t with
  | none => none
  | some ti =>
    match ti.k, x with
    | .ar n e, .ptr b o =>
      match T.ty.get e with
      | none => none
      | some te =>
        match sliceB n n lo hi mx with
        | none => none
        | some (l, h, m) => some (.sl b (cond (Nat.beq m l) o (o + l * te.size)) (h - l) (m - l) none)
    | .ar _ _, _ => none
    | _, _ => evSlice T t x lo hi mx

theorem evSliceAt_ok {T : Tab} (ok : T.Ok) {t : TypeId} {ι : Inj} {M : Mem} {w : World} {x y : AV} {v : Value} {lo hi mx : Option AV} {lov hiv mxv : Option Value}
    (R : Rel ι M w) (hx : VR ι x v) (h1 : OVR ι lo lov) (h2 : OVR ι hi hiv) (h3 : OVR ι mx mxv) (h : evSliceAt T t x lo hi mx = some y) :
    VS T.P ι M w (Instr.sliceAt t v lov hiv mxv) y M := by
  unfold evSliceAt at h
  split at h
  · simp at h
  · rename_i ti ht
    split at h
    · rename_i n e b o hk
      split at h
      · simp at h
      · rename_i te hte
        split at h
        · simp at h
        · rename_i l hh m hB
          injection h with h; subst h
          cases hx with
          | ptr _ _ lc hl =>
            obtain ⟨hr, hm, _⟩ := sliceB_run (P := T.P) (w := w) h1 h2 h3 (Nat.le_refl n) hB false
            have hm' : (if mx.isSome then m else n) = m := by
              cases hs : mx.isSome with
              | true => rfl
              | false => exact (hm hs).symm
            rw [hm'] at hr
            rw [cond_beq]
            by_cases hml : m = l
            · rw [if_pos hml]
              refine ⟨ι, w, _, ?_, .slE b o (hh - l) (m - l) lc hl, Stp.refl R⟩
              simp [Instr.sliceAt, ty_ar ok ht hk, Instr.sureAddr, hr, ty_size ok hte, hml]
            · rw [if_neg hml]
              refine ⟨ι, w, _, ?_, .slE b (o + l * te.size) (hh - l) (m - l) lc hl, Stp.refl R⟩
              simp [Instr.sliceAt, ty_ar ok ht hk, Instr.sureAddr, hr, ty_size ok hte, hml, add_none, Nat.add_assoc]
    · simp at h
    · rename_i hn1 hn2
      obtain ⟨ι', w', u, h4, h5, h6⟩ := evSlice_ok ok R hx h1 h2 h3 h
      refine ⟨ι', w', u, ?_, h5, h6⟩
      rw [← h4]
      obtain ⟨d, hd, hdr, hdk⟩ := ty_under ok ht (w := w)
      unfold Instr.sliceAt
      simp only [Sem.run_bind, hdr, Result.andThen_ok]
      cases d <;> first | rfl | skip
      rename_i n e
      exfalso
      generalize hkk : ti.k = kk at hdk
      cases kk <;> first | exact hdk | exact hn2 _ _ hkk | exact hn1 _ _ hkk | exact hn2 _ _ _ _ hkk rfl

def evBuiltin (T : Tab) (b : Builtin) (ts : Array TypeId) (ty : TypeId) (args : List AV) (M : Mem) : Option (AV × Mem) :=
  match b, args with
  | .len, [x] => match ts[0]? with
    | some t => (evLenCap T false t x M).map fun (n : Nat) => (.val (.int .i64 n), M)
    | none => none
  | .cap, [x] => match ts[0]? with
    | some t => (evLenCap T true t x M).map fun (n : Nat) => (.val (.int .i64 n), M)
    | none => none
  | .append, [s, x] => match ts[0]?, ts[1]? with
    | some t1, some t2 => evAppend T t1 t2 s x M
    | _, _ => none
  | .copy, [d, s] => match ts[0]? with
    | some t1 => evCopy T t1 d s M
    | none => none
  | .clear, [x] => match ts[0]? with
    | some t => (evClear T t x M).map fun M' => (.tup [], M')
    | none => none
  | .delete, [m, k] => match ts[0]? with
    | some t => (evDelete T t m k M).map fun M' => (.tup [], M')
    | none => none
  | .min, args => match flatArgs args with
    | some vs => (peek T.P (Builtin.min_ ts ty ⟨vs⟩)).map fun v => (ofV v, M)
    | none => none
  | .max, args => match flatArgs args with
    | some vs => (peek T.P (Builtin.max_ ts ty ⟨vs⟩)).map fun v => (ofV v, M)
    | none => none
  | .real, args => match flatArgs args with
    | some vs => (peek T.P (Builtin.real_ ts ty ⟨vs⟩)).map fun v => (ofV v, M)
    | none => none
  | .imag, args => match flatArgs args with
    | some vs => (peek T.P (Builtin.imag_ ts ty ⟨vs⟩)).map fun v => (ofV v, M)
    | none => none
  | .complex, args => match flatArgs args with
    | some vs => (peek T.P (Builtin.complex_ ts ty ⟨vs⟩)).map fun v => (ofV v, M)
    | none => none
  | _, _ => none

def OpOk (P : Program) (ι : Inj) (M : Mem) (w : World) (s : Sem Next) (x : AV) (M' : Mem) : Prop :=
  ∃ ι' w' n v, s.run P w = .ok n w' ∧ (n = .value v ∨ (n = .skip ∧ v = undef)) ∧ VR ι' x v ∧ Stp ι M w ι' M' w'

theorem OpOk.of {P : Program} {ι : Inj} {M : Mem} {w : World} {s : Sem Value} {x : AV} {M' : Mem} (h : VS P ι M w s x M') : OpOk P ι M w (do pure (.value (← s))) x M' := by
  obtain ⟨ι', w', v, h1, h2, h3⟩ := h
  exact ⟨ι', w', .value v, v, by simp [h1], .inl rfl, h2, h3⟩

theorem OpOk.unit {P : Program} {ι : Inj} {M : Mem} {w : World} {s : Sem Unit} {M' : Mem} {w' : World} (h : s.run P w = .ok () w') (hs : Stp ι M w ι M' w') :
    OpOk P ι M w (do s; pure .skip) undefA M' := ⟨ι, w', .skip, undef, by simp [h], .inr ⟨rfl, rfl⟩, VR.undef ι, hs⟩

theorem VS.pure {P : Program} {ι : Inj} {M : Mem} {w : World} (R : Rel ι M w) {s : Sem Value} {v : Value} (h : peek P s = some v) : VS P ι M w s (ofV v) M :=
  ⟨ι, w, v, peek_run P s v h w, VR.ofV ι v, Stp.refl R⟩

theorem VRs.one {ι : Inj} {x : AV} {vs : List Value} (h : VRs ι [x] vs) : ∃ v, vs = [v] ∧ VR ι x v := by
  cases h with
  | cons _ v _ vs h hs => cases hs; exact ⟨v, rfl, h⟩

theorem VRs.two {ι : Inj} {x y : AV} {vs : List Value} (h : VRs ι [x, y] vs) : ∃ v u, vs = [v, u] ∧ VR ι x v ∧ VR ι y u := by
  cases h with
  | cons _ v _ vs h hs =>
    obtain ⟨u, rfl, hu⟩ := VRs.one hs
    exact ⟨v, u, rfl, h, hu⟩

theorem evBuiltin_ok {T : Tab} (ok : T.Ok) {b : Builtin} {ts : Array TypeId} {ty : TypeId} {cs : Array Bool} {ι : Inj} {M M' : Mem} {w : World} {xs : List AV} {vs : Array Value} {z : AV} (R : Rel ι M w)
    (hx : VRs ι xs vs.toList) (h : evBuiltin T b ts ty xs M = some (z, M')) : OpOk T.P ι M w (builtin b ts ty cs vs) z M' := by
  unfold evBuiltin at h
  split at h
  · obtain ⟨v, hv, hxv⟩ := hx.one
    have hv0 : vs[0]? = some v := by rw [← Array.getElem?_toList, hv]; rfl
    split at h
    · rename_i t ht
      obtain ⟨n, hn, he⟩ := Option.map_eq_some_iff.1 h
      injection he with h1 h2; subst h1; subst h2
      exact OpOk.of (s := Builtin.len_ ts ty vs) ⟨ι, w, _, evLen2_ok ok ht hv0 R hxv hn, .val _ rfl, Stp.refl R⟩
    · simp at h
  · obtain ⟨v, hv, hxv⟩ := hx.one
    have hv0 : vs[0]? = some v := by rw [← Array.getElem?_toList, hv]; rfl
    split at h
    · rename_i t ht
      obtain ⟨n, hn, he⟩ := Option.map_eq_some_iff.1 h
      injection he with h1 h2; subst h1; subst h2
      exact OpOk.of (s := Builtin.cap_ ts ty vs) ⟨ι, w, _, evCap2_ok ok ht hv0 hxv hn, .val _ rfl, Stp.refl R⟩
    · simp at h
  · obtain ⟨v, u, hv, hxv, hxu⟩ := hx.two
    have hv0 : vs[0]? = some v := by rw [← Array.getElem?_toList, hv]; rfl
    have hv1 : vs[1]? = some u := by rw [← Array.getElem?_toList, hv]; rfl
    split at h
    · rename_i t1 t2 ht1 ht2
      exact OpOk.of (s := Builtin.append_ ts ty vs) (evAppend_ok ok ht1 ht2 hv0 hv1 R hxv hxu h)
    · simp at h
  · obtain ⟨v, u, hv, hxv, hxu⟩ := hx.two
    have hv0 : vs[0]? = some v := by rw [← Array.getElem?_toList, hv]; rfl
    have hv1 : vs[1]? = some u := by rw [← Array.getElem?_toList, hv]; rfl
    split at h
    · rename_i t1 ht1
      exact OpOk.of (s := Builtin.copy_ ts ty vs) (evCopy_ok ok ht1 hv0 hv1 R hxv hxu h)
    · simp at h
  · obtain ⟨v, hv, hxv⟩ := hx.one
    have hv0 : vs[0]? = some v := by rw [← Array.getElem?_toList, hv]; rfl
    split at h
    · rename_i t ht
      obtain ⟨n, hn, he⟩ := Option.map_eq_some_iff.1 h
      injection he with h1 h2; subst h1; subst h2
      exact OpOk.of (s := Builtin.clear_ ts ty vs) (evClear_ok ok ht hv0 R hxv hn)
    · simp at h
  · obtain ⟨v, u, hv, hxv, hxu⟩ := hx.two
    have hv0 : vs[0]? = some v := by rw [← Array.getElem?_toList, hv]; rfl
    have hv1 : vs[1]? = some u := by rw [← Array.getElem?_toList, hv]; rfl
    split at h
    · rename_i t ht
      obtain ⟨n, hn, he⟩ := Option.map_eq_some_iff.1 h
      injection he with h1 h2; subst h1; subst h2
      exact OpOk.of (s := Builtin.delete_ ts ty vs) (evDelete_ok ok ht hv0 hv1 R hxv hxu hn)
    · simp at h
  all_goals first
    | (simp at h; done)
    | (split at h
       · rename_i us hus
         obtain ⟨n, hn, he⟩ := Option.map_eq_some_iff.1 h
         injection he with h1 h2; subst h1; subst h2
         have hvu : vs = ⟨us⟩ := Array.ext' (flatArgs_eq hx hus)
         subst hvu
         exact OpOk.of (VS.pure R hn)
       · simp at h)

def evalOp (T : Tab) (fr : Tr AV) (o : Oper) (M : Mem) : Option (AV × Mem) :=
  match o.op with
  | .move x => some (opnd fr x, M)
  | .assign x => some (opnd fr x, M)
  | .pick c x y => match opnd fr c with
    | .val (.bool b) => some (cond b (opnd fr x) (opnd fr y), M)
    | _ => none
  | .alloc t => evAlloc T t M
  | .box _ x => some (.ptr M.next 0, M.new (.cells (opnd fr x).cells true))
  | .build t ps => (evBuild T t (ps.toList.map fun p => (p.1, opnd fr p.2))).map fun v => (v, M)
  | .buildSlice t n ps => evBuildSlice T t n (ps.toList.map fun p => (p.1, opnd fr p.2)) M
  | .load t x => (evLoad T t (opnd fr x) M).map fun v => (v, M)
  | .store t x y => (evStore T t (opnd fr x) (opnd fr y) M).map fun M' => (undefA, M')
  | .nilCheck x => match opnd fr x with
    | .ptr b o => some (.ptr b o, M)
    | .fn f a b => some (.fn f a b, M)
    | _ => none
  | .binOp op t x y _ => (evBin T op t x y (opnd fr x) (opnd fr y)).map fun v => (v, M)
  | .unOp op _ x => match opnd fr x with
    | .val v => (peek T.P (Op.unary op v)).map fun u => (ofV u, M)
    | _ => none
  | .convert s d x => evConv T s d (opnd fr x) M
  | .makeFunc (.func f) a b => some (.fn f (a.toList.map (opnd fr)) (b.toList.map (opnd fr)), M)
  | .makeMap _ none => some (.map M.next, M.new (.map []))
  | .makeSlice t l c => evMakeSlice T t (opnd fr l) (opnd fr c) M
  | .slice t x lo hi mx => (evSliceAt T t (opnd fr x) (lo.map (opnd fr)) (hi.map (opnd fr)) (mx.map (opnd fr))).map fun v => (v, M)
  | .fieldAddr t x f => (evFieldAddr T t (opnd fr x) f).map fun v => (v, M)
  | .field t x f => (evField T t (opnd fr x) f).map fun v => (v, M)
  | .indexAddr t x i => (evIndexAddr T t (opnd fr x) (opnd fr i)).map fun v => (v, M)
  | .index t x i => (evIndex T t (opnd fr x) (opnd fr i)).map fun v => (v, M)
  | .lookup t x i ok => (evLookup T t (opnd fr x) (opnd fr i) ok M).map fun v => (v, M)
  | .mapUpdate t m k v => (evMapUpdate T t (opnd fr m) (opnd fr k) (opnd fr v) M).map fun M' => (undefA, M')
  | .insert t m k v => (evMapUpdate T t (opnd fr m) (opnd fr k) (opnd fr v) M).map fun M' => (undefA, M')
  | .extract x i => match opnd fr x with
    | .tup vs => (vs[i]?).map fun v => (v, M)
    | _ => none
  | .range t x => match T.ty.get t, opnd fr x with
    | some ti, .val (.string s) => match ti.k with
      | .str => some (.ptr M.next 0, M.new (.sit s 0))
      | _ => none
    | _, _ => none
  | .next x true => match opnd fr x with
    | .ptr b 0 => match M.get b with
      | some (.sit s pos) => cond (Nat.blt pos s.size)
          (some (.tup [.val (.bool true), .val (.int .i64 pos), .val (.int .i32 (Utf8.decode s pos).1)], M.put b (.sit s (pos + (Utf8.decode s pos).2))))
          (some (.tup [.val (.bool false)], M))
      | _ => none
    | _ => none
  | .call c => match c.callee with
    | .builtin b => evBuiltin T b c.argTypes o.type (c.args.toList.map (opnd fr)) M
    | _ => none
  | _ => none

set_option maxHeartbeats 4000000 in
theorem evalOp_ok {T : Tab} (ok : T.Ok) {fr : Tr AV} {a : Act} {o : Oper} {ι : Inj} {M M' : Mem} {w : World} {x : AV} (R : Rel ι M w) (hf : FrR ι fr a) (h : evalOp T fr o M = some (x, M')) :
    OpOk T.P ι M w (execOp a.eval o) x M' := by
  obtain ⟨dst, op, type, pos, after, guard⟩ := o
  unfold evalOp at h
  unfold execOp
  simp only at h ⊢
  have H := fun x => opnd_ok hf x
  cases op <;> simp only at h ⊢ <;> try (simp at h; done)
  case move y =>
    injection h with h; injection h with h1 h2; subst h1; subst h2
    exact ⟨ι, w, _, _, rfl, .inl rfl, H y, Stp.refl R⟩
  case assign y =>
    injection h with h; injection h with h1 h2; subst h1; subst h2
    exact ⟨ι, w, _, _, rfl, .inl rfl, H y, Stp.refl R⟩
  case pick c y z =>
    have hc := H c
    split at h
    · rename_i b hb
      rw [hb] at hc
      injection h with h; injection h with h1 h2; subst h1; subst h2
      generalize a.eval c = cv at hc
      cases hc
      cases b with
      | true => exact ⟨ι, w, .value (a.eval y), _, by simp [asBool], .inl rfl, H y, Stp.refl R⟩
      | false => exact ⟨ι, w, .value (a.eval z), _, by simp [asBool], .inl rfl, H z, Stp.refl R⟩
    · simp at h
  case alloc t => exact OpOk.of (evAlloc_ok ok R h)
  case box t y =>
    injection h with h; injection h with h1 h2; subst h1; subst h2
    exact OpOk.of (evBox_ok R (H y))
  case build t ps =>
    obtain ⟨v, hv, he⟩ := Option.map_eq_some_iff.1 h
    injection he with h1 h2; subst h1; subst h2
    refine OpOk.of (evBuild_ok ok R (qs := ps.map fun (i, x) => (i, a.eval x)) ?_ hv)
    rw [Array.toList_map]
    exact opair_ok hf ps.toList
  case buildSlice t n ps =>
    refine OpOk.of (evBuildSlice_ok ok R (qs := ps.map fun (i, x) => (i, a.eval x)) ?_ h)
    rw [Array.toList_map]
    exact opair_ok hf ps.toList
  case insert t m k v =>
    obtain ⟨v', hv, he⟩ := Option.map_eq_some_iff.1 h
    injection he with h1 h2; subst h1; subst h2
    obtain ⟨w', h3, h4⟩ := evMapUpdate_ok ok R (H m) (H k) (H v) hv
    exact OpOk.unit h3 h4
  case load t y =>
    obtain ⟨v, hv, he⟩ := Option.map_eq_some_iff.1 h
    injection he with h1 h2; subst h1; subst h2
    exact OpOk.of (evLoad_ok ok R (H y) hv)
  case store t y z =>
    obtain ⟨v, hv, he⟩ := Option.map_eq_some_iff.1 h
    injection he with h1 h2; subst h1; subst h2
    obtain ⟨w', h3, h4⟩ := evStore_ok ok R (H y) (H z) hv
    exact OpOk.unit h3 h4
  case nilCheck y =>
    have hy := H y
    split at h
    · rename_i b o hb
      rw [hb] at hy
      injection h with h; injection h with h1 h2; subst h1; subst h2
      generalize a.eval y = yv at hy
      have hy' := hy
      cases hy
      exact ⟨ι, w, _, _, rfl, .inl rfl, hy', Stp.refl R⟩
    · rename_i f b c hb
      rw [hb] at hy
      injection h with h; injection h with h1 h2; subst h1; subst h2
      generalize a.eval y = yv at hy
      have hy' := hy
      cases hy
      exact ⟨ι, w, _, _, rfl, .inl rfl, hy', Stp.refl R⟩
    · simp at h
  case binOp op t y z yt =>
    obtain ⟨v, hv, he⟩ := Option.map_eq_some_iff.1 h
    injection he with h1 h2; subst h1; subst h2
    exact OpOk.of (evBin_ok ok R (H y) (H z) hv)
  case unOp op t y =>
    have hy := H y
    split at h
    · rename_i v hb
      rw [hb] at hy
      obtain ⟨u, hu, he⟩ := Option.map_eq_some_iff.1 h
      injection he with h1 h2; subst h1; subst h2
      generalize a.eval y = yv at hy
      cases hy
      exact OpOk.of (VS.pure R hu)
    · simp at h
  case convert s d y => exact OpOk.of (evConv_ok ok R (H y) h)
  case makeFunc fn b c =>
    cases fn <;> simp only at h <;> try (simp at h; done)
    rename_i f
    injection h with h; injection h with h1 h2; subst h1; subst h2
    refine OpOk.of ⟨ι, w, _, rfl, .fn f _ _ _ _ ?_ ?_, Stp.refl R⟩
    · rw [Array.toList_map]; exact opnds_ok hf b.toList
    · rw [Array.toList_map]; exact opnds_ok hf c.toList
  case makeMap t r =>
    cases r <;> simp only at h <;> try (simp at h; done)
    injection h with h; injection h with h1 h2; subst h1; subst h2
    exact OpOk.of (evMakeMap_ok R)
  case makeSlice t l c => exact OpOk.of (evMakeSlice_ok ok R (H l) (H c) h)
  case slice t y lo hi mx =>
    obtain ⟨v, hv, he⟩ := Option.map_eq_some_iff.1 h
    injection he with h1 h2; subst h1; subst h2
    exact OpOk.of (evSliceAt_ok ok R (H y) (oopnd_ok hf lo) (oopnd_ok hf hi) (oopnd_ok hf mx) hv)
  case fieldAddr t y f =>
    obtain ⟨v, hv, he⟩ := Option.map_eq_some_iff.1 h
    injection he with h1 h2; subst h1; subst h2
    exact OpOk.of (evFieldAddr_ok ok R (H y) hv)
  case field t y f =>
    obtain ⟨v, hv, he⟩ := Option.map_eq_some_iff.1 h
    injection he with h1 h2; subst h1; subst h2
    exact OpOk.of (evField_ok ok R (H y) hv)
  case indexAddr t y i =>
    obtain ⟨v, hv, he⟩ := Option.map_eq_some_iff.1 h
    injection he with h1 h2; subst h1; subst h2
    exact OpOk.of (evIndexAddr_ok ok R (H y) (H i) hv)
  case index t y i =>
    obtain ⟨v, hv, he⟩ := Option.map_eq_some_iff.1 h
    injection he with h1 h2; subst h1; subst h2
    exact OpOk.of (evIndex_ok ok R (H y) (H i) hv)
  case lookup t y i c =>
    obtain ⟨v, hv, he⟩ := Option.map_eq_some_iff.1 h
    injection he with h1 h2; subst h1; subst h2
    exact OpOk.of (evLookup_ok ok R (H y) (H i) hv)
  case mapUpdate t m k v =>
    obtain ⟨v', hv, he⟩ := Option.map_eq_some_iff.1 h
    injection he with h1 h2; subst h1; subst h2
    obtain ⟨w', h3, h4⟩ := evMapUpdate_ok ok R (H m) (H k) (H v) hv
    exact OpOk.unit h3 h4
  case range t y =>
    have hy := H y
    split at h
    · rename_i ti s ht hb
      rw [hb] at hy
      split at h
      · rename_i hk
        injection h with h; injection h with h1 h2; subst h1; subst h2
        generalize a.eval y = yv at hy
        cases hy
        have hs := Stp.alloc R (.sit s 0) (.stringIter s 0) ⟨w.heap.size, 0, 0⟩ rfl ⟨rfl, rfl, rfl⟩
        refine OpOk.of ⟨_, _, .pointer (some ⟨w.heap.size, 0, none⟩), ?_, .ptr M.next 0 ⟨w.heap.size, 0, 0⟩ (by simp), hs⟩
        simp [Instr.range, ty_str ok ht hk]
      · simp at h
    · simp at h
  case next y b =>
    cases b <;> simp only at h <;> try (simp at h; done)
    have hy := H y
    split at h
    · rename_i b hb
      rw [hb] at hy
      split at h
      · rename_i s p hg
        generalize a.eval y = yv at hy
        cases hy with
        | ptr _ _ l hl =>
          obtain ⟨l', hl', hrow⟩ := R.live b _ hg
          rw [hl] at hl'; injection hl' with hl'; subst hl'
          have hob : w.heap[l.blk]? = some (.stringIter s p) ∧ l.base = 0 := by
            generalize w.heap[l.blk]? = ob at hrow
            cases ob with
            | none => exact hrow.elim
            | some ob =>
              cases ob <;> first | exact hrow.elim | (obtain ⟨g1, g2, g3⟩ := hrow; subst g1; subst g2; exact ⟨rfl, g3⟩)
          obtain ⟨hob, hbase⟩ := hob
          have hget : (getObj l.blk).run T.P w = .ok (.stringIter s p) w := by simp [getObj, Sem.run, hob]
          have hlt : l.blk < w.heap.size := by
            rcases Nat.lt_or_ge l.blk w.heap.size with h' | h'
            · exact h'
            · rw [Array.getElem?_eq_none h'] at hob; simp at hob
          rw [cond_eq_ite] at h
          split at h
          · rename_i hps
            have hps : p < s.size := Nat.le_of_ble_eq_true hps
            injection h with h; injection h with h1 h2; subst h1; subst h2
            refine OpOk.of ⟨ι, { w with heap := w.heap.setIfInBounds l.blk (.stringIter s (p + (Utf8.decode s p).2)) }, .tuple #[.bool true, .int .i64 p, .int .i32 (Utf8.decode s p).1], ?_,
              .tup _ _ (.cons _ _ _ _ (.val _ rfl) (.cons _ _ _ _ (.val _ rfl) (.cons _ _ _ _ (.val _ rfl) .nil))), ?_⟩
            · have hset : (setObj l.blk (.stringIter s (p + (Utf8.decode s p).2))).run T.P w = .ok () { w with heap := w.heap.setIfInBounds l.blk (.stringIter s (p + (Utf8.decode s p).2)) } := by
                simp [setObj, Sem.run, hob]
              simp only [Instr.next, hbase, Nat.add_zero, Sem.run_bind, hget, Result.andThen_ok, hps, if_true, hset, Sem.run_pure, goInt]
            · refine Stp.write R hg rfl hl (by simp) ?_ ?_ rfl rfl rfl
              · intro k hk'
                simp only
                rw [Array.getElem?_setIfInBounds_ne (fun h => hk' h.symm)]
              · simp only [Array.getElem?_setIfInBounds_self_of_lt hlt]
                exact ⟨rfl, rfl, hbase⟩
          · rename_i hps
            have hps : ¬ p < s.size := fun he => hps (Nat.ble_eq.mpr he)
            injection h with h; injection h with h1 h2; subst h1; subst h2
            refine OpOk.of ⟨ι, w, .tuple #[.bool false], ?_, .tup _ _ (.cons _ _ _ _ (.val _ rfl) .nil), Stp.refl R⟩
            simp only [Instr.next, hbase, Nat.add_zero, Sem.run_bind, hget, Result.andThen_ok, hps, if_false, Sem.run_pure]
      · simp at h
    · simp at h
  case extract y i =>
    have hy := H y
    split at h
    · rename_i vs hb
      rw [hb] at hy
      obtain ⟨u, hu, he⟩ := Option.map_eq_some_iff.1 h
      injection he with h1 h2; subst h1; subst h2
      generalize a.eval y = yv at hy
      cases hy with
      | tup _ us hus =>
        obtain ⟨q, hq, hqr⟩ := hus.get i u hu
        have hq' : us[i]? = some q := by simpa using hq
        exact OpOk.of ⟨ι, w, q, by simp [Instr.extract, hq'], hqr, Stp.refl R⟩
    · simp at h
  case call c =>
    split at h
    · rename_i b hb
      have := evBuiltin_ok ok (b := b) (ts := c.argTypes) (ty := type) (cs := c.args.map fun | .const _ => true | _ => false) (vs := c.args.map a.eval) R (by rw [Array.toList_map]; exact opnds_ok hf c.args.toList) h
      obtain ⟨ι', w', n, v, h1, h2, h3, h4⟩ := this
      refine ⟨ι', w', n, v, ?_, h2, h3, h4⟩
      simp only [resolve, hb, Sem.run_bind, Sem.run_pure, Result.andThen_ok, invoke]
      exact h1
    · simp at h

end Go.AM
