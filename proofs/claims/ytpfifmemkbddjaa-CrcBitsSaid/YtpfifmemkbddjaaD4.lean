/- The sums' laws, plainly; bytes that grow; CrcParts. -/
import Derived.Test.YtpfifmemkbddjaaD3
set_option linter.unusedVariables false
namespace Go.Proofs.Ytpfifmemkbddjaa
open Go.AM
open Go.ChangeShapes Go.WideShapes Go.RowKit
set_option linter.unusedSimpArgs false

/-! ## Sums, plainly -/

theorem more_more (s : BitVec 32) (l m : List (BitVec 8)) : more (more s l) m = more s (l ++ m) := by
  unfold more reg
  rw [BitVec.not_not, List.foldl_append]

theorem bit_xor (r s : BitVec 32) : bit (r ^^^ s) = bit r ^^^ bit s := by
  unfold bit
  have h : ∀ x : BitVec 32, x &&& 1#32 = 1#32 ↔ x.getLsbD 0 = true := by
    intro x
    constructor
    · intro h
      have := congrArg (fun y : BitVec 32 => y.getLsbD 0) h
      simpa using this
    · intro h
      apply BitVec.eq_of_getLsbD_eq
      intro i hi
      by_cases h0 : i = 0
      · subst h0; simp [h]
      · rw [BitVec.getLsbD_and]
        have : (1#32).getLsbD i = false := by
          rw [BitVec.getLsbD_one]; simp [h0]
        rw [this]; simp
  simp only [h, BitVec.getLsbD_xor, BitVec.ushiftRight_xor_distrib]
  cases r.getLsbD 0 <;> cases s.getLsbD 0 <;> simp
  · rw [BitVec.xor_assoc]
  · rw [BitVec.xor_assoc, BitVec.xor_comm (s >>> 1), ← BitVec.xor_assoc]
  · rw [BitVec.xor_assoc, BitVec.xor_comm (s >>> 1), ← BitVec.xor_assoc 3988292384#32, BitVec.xor_self, BitVec.zero_xor]

theorem bits_xor : ∀ (n : Nat) (r s : BitVec 32), bits n (r ^^^ s) = bits n r ^^^ bits n s
  | 0, _, _ => rfl
  | n + 1, r, s => by simp only [bits, bit_xor, bits_xor n]

def xors (l m : List (BitVec 8)) : List (BitVec 8) := List.zipWith (· ^^^ ·) l m

theorem reg_xor : ∀ (l m : List (BitVec 8)) (r s : BitVec 32), l.length = m.length → reg (r ^^^ s) (xors l m) = reg r l ^^^ reg s m
  | [], [], r, s, _ => rfl
  | [], _ :: _, _, _, h => by simp at h
  | _ :: _, [], _, _, h => by simp at h
  | a :: l, b :: m, r, s, h => by
    have e : bits 8 (r ^^^ s ^^^ (a ^^^ b).setWidth 32) = bits 8 (r ^^^ a.setWidth 32) ^^^ bits 8 (s ^^^ b.setWidth 32) := by
      rw [← bits_xor, BitVec.setWidth_xor]
      congr 1
      rw [BitVec.xor_assoc, BitVec.xor_assoc, ← BitVec.xor_assoc s, BitVec.xor_comm s, BitVec.xor_assoc]
    show reg (bits 8 (r ^^^ s ^^^ (a ^^^ b).setWidth 32)) (xors l m) = _
    rw [e, reg_xor l m _ _ (by simpa using h)]
    rfl

theorem not_xor3 (a b c : BitVec 32) : ~~~ (a ^^^ b ^^^ c) = ~~~ a ^^^ ~~~ b ^^^ ~~~ c := by
  simp only [← BitVec.xor_allOnes]
  generalize BitVec.allOnes 32 = w
  apply BitVec.eq_of_getLsbD_eq
  intro i hi
  simp only [BitVec.getLsbD_xor]
  cases a.getLsbD i <;> cases b.getLsbD i <;> cases c.getLsbD i <;> cases w.getLsbD i <;> rfl

theorem more_xor3 (l m z : List (BitVec 8)) (h : l.length = m.length) (h2 : l.length = z.length) (hz : ∀ b ∈ z, b = 0#8) :
    more 0#32 (xors l m) = more 0#32 l ^^^ more 0#32 m ^^^ more 0#32 z := by
  have hx : xors (xors l m) z = xors l m := by
    apply List.ext_getElem
    · simp [xors]; omega
    · intro i h1 h3
      simp only [xors, List.getElem_zipWith]
      have : z[i]'(by simp [xors] at h1; omega) = 0#8 := hz _ (List.getElem_mem _)
      rw [this, BitVec.xor_zero]
  have hl : (xors l m).length = z.length := by simp [xors]; omega
  unfold more
  rw [← not_xor3, ← reg_xor l m _ _ h, ← reg_xor _ z _ _ hl, hx]
  rfl

/-! ## Bytes that grow -/

/-- Nothing yet, or what append alone has made. -/
def Gr (M : Mem) (x : AV) (l : List (BitVec 8)) : Prop := (x = .val (.slice none 0 0) ∧ l = []) ∨ ∃ b, Grown 1 M x l.length (bvs l) b

theorem Gr.at {M : Mem} {x : AV} {l : List (BitVec 8)} (h : Gr M x l) : BytesAt M x l := by
  rcases h with ⟨rfl, rfl⟩ | ⟨b, h⟩
  · exact SlAt.nil
  · exact h.at

theorem Gr.mono {M N : Mem} {x : AV} {l : List (BitVec 8)} (h : Gr M x l) (hk : ∀ c r, inBlk x c → M.get c = some r → N.get c = some r) : Gr N x l := by
  rcases h with h | ⟨b, h1, h2, h3, h4⟩
  · exact .inl h
  · exact .inr ⟨b, h1, h2, h3, hk b _ (by rw [h1]; exact ⟨by omega, rfl⟩) h4⟩

theorem Gr.append {M : Mem} {x y : AV} {l m : List (BitVec 8)} (hw : M.WF) (h : Gr M x l) (hy : BytesAt M y m) (hm : 0 < m.length) (hb : l.length + m.length ≤ 1000000) :
    ∃ x' N, evAppend tb 22 22 x y M = some (x', N) ∧ Gr N x' (l ++ m) ∧ N.WF ∧ N.next = M.next + 1 ∧ (∀ c r, ¬ inBlk x c → M.get c = some r → N.get c = some r) ∧ (∀ c, inBlk x' c → c = M.next) := by
  rcases h with ⟨rfl, rfl⟩ | ⟨b, hg⟩
  · obtain ⟨N, h1, rfl⟩ := append_nil (T := tb) (k := 1) ty22 rfl ty5 rfl hy hm ⟨by simp only; simp only [List.length_nil] at hb; omega, by simp only [List.length_nil] at hb; omega⟩
    refine ⟨_, _, h1, ?_, hw.new _, rfl, fun c r _ hc => ?_, fun c hc => hc.2.symm⟩
    · rw [List.nil_append]
      exact .inr ⟨M.next, rfl, hm, by simp, by rw [Mem.get_new, if_pos rfl]⟩
    · rw [Mem.get_new, if_neg (by have := hw c r hc; omega)]; exact hc
  · obtain ⟨N, h1, rfl⟩ := append_grown (T := tb) (k := 1) ty22 rfl ty5 rfl hg hy hm (bvs_one m) ⟨by simp only; omega, by omega⟩
    refine ⟨_, _, h1, ?_, (hw.kill _).new _, rfl, fun c r hn hc => ?_, fun c hc => hc.2.symm⟩
    · refine .inr ⟨M.next, by simp, by simp; omega, by simp, ?_⟩
      rw [Mem.get_new, if_pos (by rfl), bvs_append]
    · have hcb : c ≠ b := fun he => by
        subst he
        exact hn (by rw [hg.1]; exact ⟨by have := hg.2.1; omega, rfl⟩)
      rw [Mem.get_new, if_neg (by have := hw c r hc; simp; omega), Mem.get_kill, if_neg hcb]; exact hc

theorem bytes_one {M : Mem} {b : Nat} {v : BitVec 8} {rw' : Bool} (h : M.get b = some (.cells [bv8 v] rw')) : BytesAt M (.sl b 0 1 1 none) [v] :=
  ⟨rfl, .inr ⟨b, 0, 1, none, rfl, ⟨Nat.le_refl _, .inl rfl⟩, .inr ⟨_, _, h, Nat.le_refl _, rfl⟩⟩⟩

theorem iXor_u8 (a b : BitVec 8) : iXor .u8 (a.toNat : Int) (b.toNat : Int) = ((a ^^^ b).toNat : Int) := by
  show IntKind.u8.wrap ((BitVec.ofInt 8 (a.toNat : Int) ^^^ BitVec.ofInt 8 (b.toNat : Int)).toNat : Int) = _
  rw [ofInt_bv, ofInt_bv, wrap_u8_bv]

theorem peek_min (P : Program) (ts : Array TypeId) (t : TypeId) (k : IntKind) (a b : Int) : peek P (Builtin.min_ ts t ⟨[.int k a, .int k b]⟩) = some (.int k (if b < a then b else a)) := rfl

theorem BytesAt.slice {M : Mem} {x : AV} {l : List (BitVec 8)} (h : BytesAt M x l) {lo hi : Option AV} {a r : Nat}
    (hlo : (lo = none ∧ a = 0) ∨ lo = some (.val (.int .i64 (a : Int)))) (hhi : (hi = none ∧ r = l.length) ∨ hi = some (.val (.int .i64 (r : Int)))) (har : a ≤ r) (hrn : r ≤ l.length) :
    ∃ y, evSliceAt tb 22 x lo hi none = some y ∧ BytesAt M y ((l.take r).drop a) := by
  obtain ⟨y, h1, h2, _⟩ := SlAt.slice h ty22 rfl ty5 rfl (k1 := .i64) (k2 := .i64) hlo hhi har hrn
  refine ⟨y, h1, ?_⟩
  unfold BytesAt
  have e1 : ((l.take r).drop a).length = r - a := by simp; omega
  have e2 : bvs ((l.take r).drop a) = ((bvs l).drop (a * 1)).take ((r - a) * 1) := by
    unfold bvs
    rw [Nat.mul_one, Nat.mul_one, List.map_drop, List.map_take, List.drop_take]
  rw [e1, e2]; exact h2


theorem eMin_some {ts : Array TypeId} {t : TypeId} {k : IntKind} {a b : Int} {M : Mem} : eMin tb ts t [.int k a, .int k b] M = some (.val (.int k (if b < a then b else a)), M) := by
  unfold eMin
  rw [peek_min]
  rfl

theorem zip_take {l m : List (BitVec 8)} {i : Nat} (hl : i < l.length) (hm : i < m.length) : xors (l.take (i + 1)) (m.take (i + 1)) = xors (l.take i) (m.take i) ++ [l[i] ^^^ m[i]] := by
  unfold xors
  rw [List.take_succ_eq_append_getElem hl, List.take_succ_eq_append_getElem hm, List.zipWith_append (by simp; omega)]
  rfl

theorem crc_parts (M : Mem) (hw : M.WF) (x y : AV) (l m : List (BitVec 8)) (at' : Int) (hx : BytesAt M x l) (hy : BytesAt M y m) (hl : l.length ≤ 9223372036854775807) (hm : m.length ≤ 9223372036854775807) :
    CallA tb.P 4 [x, .val (.int .i64 at'), y] M fun v _ => v = .val (.bool true) := by
  refine F4_ok ?_
  unfold F4
  simp only [zI_int]
  refine letP_i fun K hK => ?_
  have awake : ∀ b : Bool, b = true → K b := by
    rintro b rfl
    rw [hK]
    simp only [condB_true]
    refine (crc_awake M hw).mono ?_
    rintro y N ⟨rfl, _⟩
    simp only [zB_bool]
  refine bindO_i (eLen_some hx.len) ?_
  simp only [zI_int]
  refine condB_i (fun _ => awake true rfl) (fun hle => ?_)
  have hle : l.length ≤ 300 := by have : ¬ (l.length : Int) > 300 := by simpa using hle
                                  omega
  refine bindO_i (eLen_some hy.len) ?_
  simp only [zI_int]
  by_cases hmle : (m.length : Int) > 300
  · exact awake _ (by simpa using hmle)
  have hmle' : m.length ≤ 300 := by omega
  rw [show decide ((m.length : Int) > 300) = false by simpa using hmle, hK]
  clear hK awake
  simp only [condB_false]
  refine bindO_i (eLen_some hx.len) ?_
  simp only [zI_int]
  have e1 : iAdd .i64 (l.length : Int) 1 = ((l.length + 1 : Nat) : Int) := iInc (by omega)
  rw [e1]
  refine (low M at' (l.length + 1) (by omega) (by omega)).mono ?_
  rintro v N ⟨rfl, rfl⟩
  simp only [zI_int]
  have hat := lowOf_lt at' (show 0 < l.length + 1 by omega)
  generalize lowOf at' (l.length + 1) = a at hat ⊢
  refine bindO_i (eLen_some hx.len) ?_
  simp only [zI_int]
  refine bindO_i (eLen_some hy.len) ?_
  simp only [zI_int]
  refine bindO_i eMin_some ?_
  simp only [zI_int]
  have en : (if (m.length : Int) < (l.length : Int) then (m.length : Int) else (l.length : Int)) = ((min l.length m.length : Nat) : Int) := by
    split <;> omega
  rw [en]
  generalize hn : min l.length m.length = n
  refine ⟨fun u z k q P => ∃ i : Nat, k = i ∧ q = n - i ∧ i ≤ n ∧ Gr P u (xors (l.take i) (m.take i)) ∧ Gr P z (List.replicate i 0#8) ∧ (∀ c, inBlk u c → ¬ inBlk z c) ∧ P.WF ∧ (∀ c r, N.get c = some r → P.get c = some r) ∧ (∀ c, inBlk u c → N.next ≤ c) ∧ (∀ c, inBlk z c → N.next ≤ c) ∧ N.next ≤ P.next,
    ⟨n, 0, rfl, rfl, Nat.zero_le _, .inl ⟨rfl, rfl⟩, .inl ⟨rfl, rfl⟩, fun c h => h.elim, hw, fun _ _ h => h, fun c h => h.elim, fun c h => h.elim, Nat.le_refl _⟩, ?_⟩
  rintro _ u z k q P ⟨i, rfl, rfl, hi, hu, hz, hdis, hPw, hPN, hun, hzn, hnx⟩
  have hPx : BytesAt P x l := SlAt.mono hx fun c r _ h => hPN c r h
  have hPy : BytesAt P y m := SlAt.mono hy fun c r _ h => hPN c r h
  refine condB_i (fun hlt => ?_) (fun hge => ?_)
  · have hlt : i < n := by simpa using hlt
    have hil : i < l.length := by omega
    have him : i < m.length := by omega
    refine letP_i fun P1 hP1 => ?_
    have hx1 : BytesAt P1 x l := SlAt.rows hPx (by rw [hP1])
    have hy1 : BytesAt P1 y m := SlAt.rows hPy (by rw [hP1])
    obtain ⟨b, o, hia, hld⟩ := hx1.at hil
    obtain ⟨b', o', hia', hld'⟩ := hy1.at him
    refine bindO_i (eIA_some hia) ?_
    refine bindO_i (eIA_some hia') ?_
    refine bindO_i (eLd_some hld) ?_
    simp only [zI_int]
    refine bindO_i (eLd_some hld') ?_
    simp only [zI_int, iXor_u8]
    refine letP_i fun P2 hP2 => ?_
    have hP2' : P2 = P.new (.cells [bv8 (l[i] ^^^ m[i])] true) := by rw [hP2, hP1]; rfl
    clear hP2 hia hia' hld hld' hx1 hy1 hP1
    subst hP2'
    have hw2 := hPw.new (.cells [bv8 (l[i] ^^^ m[i])] true)
    have hu2 : Gr (P.new (.cells [bv8 (l[i] ^^^ m[i])] true)) u (xors (l.take i) (m.take i)) := hu.mono fun c r _ hc => by rw [Mem.get_new, if_neg (by have := hPw c r hc; omega)]; exact hc
    have hs1 : BytesAt (P.new (.cells [bv8 (l[i] ^^^ m[i])] true)) (.sl P.next 0 1 1 none) [l[i] ^^^ m[i]] := bytes_one (by rw [Mem.get_new, if_pos rfl])
    have hlx : (xors (l.take i) (m.take i)).length = i := by simp [xors]; omega
    obtain ⟨u', P3, h1, h2, h3, h4, h5, h6⟩ := Gr.append hw2 hu2 hs1 (by simp) (by simp [hlx]; omega)
    refine bindO_i h1 ?_
    refine letP_i fun P4 hP4 => ?_
    subst hP4
    have hw4 := h3.new (.cells [bv8 0#8] true)
    have hs2 : BytesAt (P3.new (.cells [bv8 0#8] true)) (.sl P3.next 0 1 1 none) [0#8] := bytes_one (by rw [Mem.get_new, if_pos rfl])
    have hz4 : Gr (P3.new (.cells [bv8 0#8] true)) z (List.replicate i 0#8) := hz.mono fun c r hin hc => by
      have hc1 := hPw c r hc
      have hc2 : (P.new (.cells [bv8 (l[i] ^^^ m[i])] true)).get c = some r := by rw [Mem.get_new, if_neg (by omega)]; exact hc
      have hc3 := h5 c r (fun hin' => hdis c hin' hin) hc2
      rw [Mem.get_new, if_neg (by have := h3 c r hc3; omega)]; exact hc3
    obtain ⟨z', P5, g1, g2, g3, g4, g5, g6⟩ := Gr.append hw4 hz4 hs2 (by simp) (by simp; omega)
    refine bindO_i (show evAppend tb 22 22 z (.sl P3.next 0 1 1 none) (P3.new (.cells [.val (.int .u8 0)] true)) = some (z', P5) from g1) ?_
    have hn1 : (P.new (.cells [bv8 (l[i] ^^^ m[i])] true)).next = P.next + 1 := rfl
    have hn2 : (P3.new (.cells [bv8 0#8] true)).next = P3.next + 1 := rfl
    refine ⟨n - (i + 1), by omega, i + 1, iInc (by omega), rfl, hlt, ?_, ?_, ?_, g3, ?_, ?_, ?_, ?_⟩
    · rw [zip_take hil him]
      refine h2.mono fun c r hin hc => ?_
      have hc1 := h3 c r hc
      have := h6 c hin
      refine g5 c r (fun hin' => ?_) (by rw [Mem.get_new, if_neg (by omega)]; exact hc)
      -- the block of what was appended first is not that of the other one
      have hzlt := (hz.at).blk_lt hPw hin'
      omega
    · rw [List.replicate_succ']; exact g2
    · intro c hc hc'
      have := h6 c hc
      have := g6 c hc'
      omega
    · intro c r hc
      have hcN := hw c r hc
      have hc1 := hPN c r hc
      have hc1' := hPw c r hc1
      have hc2 : (P.new (.cells [bv8 (l[i] ^^^ m[i])] true)).get c = some r := by rw [Mem.get_new, if_neg (by omega)]; exact hc1
      have hc3 := h5 c r (fun hin => by have := hun c hin; omega) hc2
      exact g5 c r (fun hin => by have := hzn c hin; omega) (by rw [Mem.get_new, if_neg (by have := h3 c r hc3; omega)]; exact hc3)
    · intro c hc; have := h6 c hc; omega
    · intro c hc; have := g6 c hc; omega
    · show N.next ≤ P5.next
      omega
  · have hge : i = n := by have : ¬ (i : Int) < n := by simpa using hge
                           omega
    subst hge
    simp only [letP_eq]
    obtain ⟨y1, s1, r1⟩ := hPx.slice (lo := none) (hi := some (.val (.int .i64 (a : Int)))) (a := 0) (r := a) (.inl ⟨rfl, rfl⟩) (.inr rfl) (Nat.zero_le _) (by omega)
    obtain ⟨y2, s2, r2⟩ := hPx.slice (lo := some (.val (.int .i64 (a : Int)))) (hi := none) (a := a) (r := l.length) (.inr rfl) (.inl ⟨rfl, rfl⟩) (by omega) (Nat.le_refl _)
    refine bindO_i (eSl_some s1) ?_
    refine bindO_i (eSl_some s2) ?_
    refine (crc_of P y1 _ r1 (by simp; omega)).mono ?_
    rintro v N' ⟨rfl, rfl⟩
    simp only [zI_int]
    refine (crc_more _ _ y2 _ r2 (by simp; omega)).mono ?_
    rintro v N'' ⟨rfl, rfl⟩
    simp only [zI_int]
    refine (crc_of _ x l hPx (by omega)).mono ?_
    rintro v P' ⟨rfl, rfl⟩
    simp only [zI_int]
    have hparts : more (more 0#32 ((l.take a).drop 0)) ((l.take l.length).drop a) = more 0#32 l := by
      rw [more_more, List.drop_zero, List.take_length, List.take_append_drop]
    rw [hparts]
    refine condB_i (fun _ => ?_) (fun h => by simp at h)
    obtain ⟨y3, s3, r3⟩ := hPx.slice (lo := none) (hi := some (.val (.int .i64 (i : Int)))) (a := 0) (r := i) (.inl ⟨rfl, rfl⟩) (.inr rfl) (Nat.zero_le _) (by omega)
    obtain ⟨y4, s4, r4⟩ := hPy.slice (lo := none) (hi := some (.val (.int .i64 (i : Int)))) (a := 0) (r := i) (.inl ⟨rfl, rfl⟩) (.inr rfl) (Nat.zero_le _) (by omega)
    refine bindO_i (eSl_some s3) ?_
    refine bindO_i (eSl_some s4) ?_
    refine (crc_of _ u _ hu.at (by simp [xors]; omega)).mono ?_
    rintro v P' ⟨rfl, rfl⟩
    simp only [zI_int]
    refine (crc_of _ y3 _ r3 (by simp; omega)).mono ?_
    rintro v P' ⟨rfl, rfl⟩
    simp only [zI_int]
    refine (crc_of _ y4 _ r4 (by simp; omega)).mono ?_
    rintro v P' ⟨rfl, rfl⟩
    simp only [zI_int]
    refine (crc_of _ z _ hz.at (by simp; omega)).mono ?_
    rintro v P' ⟨rfl, rfl⟩
    simp only [zI_int, iXor_u32, List.drop_zero]
    rw [← more_xor3 (l.take i) (m.take i) (List.replicate i 0#8) (by simp; omega) (by simp; omega) (fun b hb => (List.mem_replicate.1 hb).2)]
    refine condB_i (fun _ => ?_) (fun h => by simp at h)
    refine (crc_awake _ hPw).mono ?_
    rintro v P' ⟨rfl, _⟩
    simp only [zB_bool]

end Go.Proofs.Ytpfifmemkbddjaa
