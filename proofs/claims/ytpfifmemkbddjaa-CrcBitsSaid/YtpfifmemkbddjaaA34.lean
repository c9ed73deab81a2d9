/- The abstract machine, part 34: the rule for open regions, made ready for steps. -/
import Derived.Test.YtpfifmemkbddjaaA33
set_option linter.unusedVariables false
namespace Go.AM
set_option linter.unusedSimpArgs false

def sameD (t : Tr AV) : Option Tmp → AV → Prop
  | none, _ => True
  | some d, x => t.get d = some x

/-- One that was read is read again. -/
def chkR (T : Tab) (ops : Array Oper) (s : St) (j : Nat) : Prop :=
  bindO ops[j]? fun o => bindO (wantedA ops s.t o) fun b => condB b (bindO (evalOp T s.t o s.m) fun y => sameD s.t o.dst y.1) True

theorem chkR_ok {T : Tab} {ops : Array Oper} {s : St} {j : Nat} (h : chkR T ops s j) : chk1 T ops s j := by
  intro o ho hw
  unfold chkR at h
  rw [ho, bindO_some, hw, bindO_some, condB_true] at h
  obtain ⟨⟨x, M'⟩, hx, h⟩ := bindO_elim h
  refine ⟨x, M', hx, fun d hd => ?_⟩
  rw [hd] at h
  exact h

def chkA (T : Tab) (ops : Array Oper) : List Nat → St → (St → Prop) → Prop
  | [], s, K => K s
  | k :: ks, s, K => chkR T ops s k ∧ chkA T ops ks s K

theorem chkA_ok {T : Tab} {ops : Array Oper} {s : St} {K : St → Prop} : ∀ {ks : List Nat}, chkA T ops ks s K → chkL T ops ks s ∧ K s
  | [], h => ⟨fun j hj => by simp at hj, h⟩
  | k :: ks, h => by
    obtain ⟨h1, h2⟩ := chkA_ok h.2
    refine ⟨fun j hj => ?_, h2⟩
    simp only [List.mem_cons] at hj
    rcases hj with rfl | hj
    · exact chkR_ok h.1
    · exact h1 j hj

def wY (T : Tab) (ops : Array Oper) (base : Nat) (rk : List Nat) : List (Nat × List Nat) → St → (St → Prop) → Prop
  | [], st, K => K st
  | i :: is, st, K => bindO ops[i.1]? fun o => stepX T ops (base + rk.getD i.1 0) o st fun s => chkA T ops i.2 s fun s => wY T ops base rk is s K

def mkSteps (ob : List (List Nat)) : List Nat → List Nat → List (Nat × List Nat)
  | [], _ => []
  | i :: is, acc => (i, obs ob i acc) :: mkSteps ob is (i :: acc)

theorem wY_wX {T : Tab} {ops : Array Oper} {base : Nat} {rk : List Nat} {ob : List (List Nat)} {K : St → Prop} : ∀ {perm acc : List Nat} {st : St}, wY T ops base rk (mkSteps ob perm acc) st K → wX T ops base rk ob perm acc st K
  | [], _, _, h => h
  | i :: is, acc, st, h => by
    unfold mkSteps wY at h
    unfold wX
    obtain ⟨o, ho, h⟩ := bindO_elim h
    simp only at ho h
    rw [ho, bindO_some]
    refine stepX_mono (fun s hs => ?_) h
    obtain ⟨h1, h2⟩ := chkA_ok hs
    exact ⟨h1, wY_wX h2⟩

/-- The rule for an open region: the steps, which reads are looked at again, the numbers of what is made, how many. -/
theorem wpa_y {T : Tab} (ok : T.Ok) (hmix : T.P.follows .mixedOrders = true) (nt : Nat) {id : Nat} {ops : Array Oper} (S : staticB T nt ops = true) {st0 : St} (hn : nt ≤ st0.n) {Q : Ex → St → Prop} (steps : List (Nat × List Nat)) (rk : List Nat) (ob : List (List Nat)) (c : Nat)
    (hpb : permB T ops (steps.map (·.1)) rk ob c = true) (hst : mkSteps ob (steps.map (·.1)) [] = steps)
    (h : wY T ops st0.m.next rk steps { n := st0.n, t := st0.t, m := { next := st0.m.next + c, rows := st0.m.rows } } (Q .normal)) : WpA T.P (.region id ops true) st0 Q :=
  wpa_x ok hmix (staticB_ok S) hn hpb (wY_wX (by rw [hst]; exact h))

/-- The same, of a region that makes nothing. -/
theorem wpa_y0 {T : Tab} (ok : T.Ok) (hmix : T.P.follows .mixedOrders = true) (nt : Nat) {id : Nat} {ops : Array Oper} (S : staticB T nt ops = true) {n : Nat} {t : Tr AV} {m : Mem} (hn : nt ≤ n) {Q : Ex → St → Prop} (steps : List (Nat × List Nat)) (ob : List (List Nat))
    (hpb : permB T ops (steps.map (·.1)) [] ob 0 = true) (hst : mkSteps ob (steps.map (·.1)) [] = steps)
    (h : wY T ops m.next [] steps ⟨n, t, m⟩ (Q .normal)) : WpA T.P (.region id ops true) ⟨n, t, m⟩ Q :=
  wpa_y ok hmix nt S hn steps [] ob 0 hpb hst h

section
variable {T : Tab} {ops : Array Oper} {base : Nat} {rk : List Nat} {st : St} {K : St → Prop}
theorem wY_nil : wY T ops base rk [] st K = K st := rfl
theorem wY_cons {i : Nat} {ks : List Nat} {is : List (Nat × List Nat)} : wY T ops base rk ((i, ks) :: is) st K = bindO ops[i]? fun o => stepX T ops (base + rk.getD i 0) o st fun s => chkA T ops ks s fun s => wY T ops base rk is s K := rfl
theorem chkA_nil : chkA T ops [] st K = K st := rfl
theorem chkA_cons {k : Nat} {ks : List Nat} : chkA T ops (k :: ks) st K = (chkR T ops st k ∧ chkA T ops ks st K) := rfl
theorem stepX_eq {id : Nat} {o : Oper} : stepX T ops id o st K = bindO (wantedA ops st.t o) fun b => condB b
    (clsE (cls T o)
      (wO T o st fun x M' => K (stX st o.dst x M'))
      (bindO (evFl T st.t o id) fun y => K (stX st o.dst y.1 (st.m.put id y.2)))
      (bindO (evalOp T st.t o st.m) fun y => K (stX st o.dst y.1 st.m)))
    (K (stX st o.dst undefA st.m)) := rfl
theorem stX_some {n : Nat} {t : Tr AV} {m : Mem} {d : Tmp} {x : AV} {M : Mem} : stX ⟨n, t, m⟩ (some d) x M = ⟨n, t.set d (some x), M⟩ := rfl
theorem stX_none {n : Nat} {t : Tr AV} {m : Mem} {x : AV} {M : Mem} : stX ⟨n, t, m⟩ none x M = ⟨n, t, M⟩ := rfl
theorem arr_get {l : List Oper} {i : Nat} : l.toArray[i]? = l[i]? := List.getElem?_toArray
end

end Go.AM
