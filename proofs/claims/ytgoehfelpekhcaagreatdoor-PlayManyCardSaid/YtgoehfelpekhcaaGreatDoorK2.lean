import Derived.Test.YtgoehfelpekhcaaGreatDoorA37
import Derived.Test.YtgoehfelpekhcaaGreatDoorA45
import Derived.Test.YtgoehfelpekhcaaGreatDoorB3
import Derived.Test.YtgoehfelpekhcaaGreatDoorQD
import Derived.Shelf.SlIterI.Nil
import Derived.Shelf.SortM.Plain
import Derived.Shelf.SortM.SortNone
import Derived.Ground.GgzProg
import Derived.Ground.SlgmProg
set_option linter.unusedSimpArgs false
set_option linter.unusedVariables false
set_option linter.unusedSectionVars false
/- Bytes: what they are; small contracts. (Turned from the first seat by ren.py.) -/
set_option maxRecDepth 100000
namespace Go.Proofs.YtgoehfelpekhcaaGreatDoor
open Go.AM

theorem ty91 : tb.ty.get 91 = some ⟨.sli 5, 1, 24, [.slice none 0 0], none⟩ := by kernel_rfl

theorem ty5 : tb.ty.get 5 = some ⟨.int .u8, 1, 1, [.int .u8 0], none⟩ := by kernel_rfl

def bv8 (b : BitVec 8) : AV := .val (.int .u8 (b.toNat : Int))

def bvs (l : List (BitVec 8)) : List AV := l.map bv8

@[simp] theorem bvs_length (l : List (BitVec 8)) : (bvs l).length = l.length := by simp [bvs]

def BytesAt (M : Mem) (x : AV) (l : List (BitVec 8)) : Prop := SlAt 1 M x l.length (bvs l)

theorem BytesAt.len {M M' : Mem} {x : AV} {l : List (BitVec 8)} (h : BytesAt M x l) : evLenCap tb false 91 x M' = some l.length := SlAt.len h ty91 rfl

theorem BytesAt.at {M : Mem} {x : AV} {l : List (BitVec 8)} (h : BytesAt M x l) {i : Nat} (hi : i < l.length) :
    ∃ b o, evIndexAddr tb 91 x (.val (.int .i64 (i : Int))) = some (.ptr b o) ∧ evLoad tb 5 (.ptr b o) M = some (.val (.int .u8 (l[i].toNat : Int))) := by
  obtain ⟨b, o, h1, _, h2, _⟩ := SlAt.at h ty91 rfl ty5 rfl hi (k' := .i64)
  refine ⟨b, o, h1, ?_⟩
  unfold evLoad
  rw [ty5]
  have := h2 0 (by omega)
  simp only [TI.isAgg, cond_false]
  rw [Nat.add_zero, Nat.mul_one, Nat.add_zero] at this
  rw [this]
  simp [bvs, hi, bv8]

theorem iInc {i : Nat} (h : i < 9223372036854775807) : iAdd .i64 (i : Int) 1 = ((i + 1 : Nat) : Int) := by
  rw [iAdd, wrap_i64' (by omega) (by omega)]; rfl

theorem ty3 : tb.ty.get 3 = some ⟨.int .i64, 1, 8, [.int .i64 0], none⟩ := by kernel_rfl

def i64 (z : Int) : AV := .val (.int .i64 z)

/-- Nothing yet, or what append alone has made. -/
def Gr (M : Mem) (x : AV) (l : List (BitVec 8)) : Prop := (x = .val (.slice none 0 0) ∧ l = []) ∨ ∃ b, Grown 1 M x l.length (bvs l) b

theorem Gr.at {M : Mem} {x : AV} {l : List (BitVec 8)} (h : Gr M x l) : BytesAt M x l := by
  rcases h with ⟨rfl, rfl⟩ | ⟨b, h⟩
  · exact SlAt.nil
  · exact h.at

theorem Gr.mono {M N : Mem} {x : AV} {l : List (BitVec 8)} (h : Gr M x l) (hk : ∀ c r, inBlk x c → M.get c = some r → N.get c = some r) : Gr N x l := by
  rcases h with h | ⟨b, h1, h2, h3, h4⟩
  · exact .inl h
  · exact .inr ⟨b, h1, h2, h3, hk b _ (by rw [h1]; exact ⟨by omega, rfl⟩) h4⟩

theorem BytesAt.slice {M : Mem} {x : AV} {l : List (BitVec 8)} (h : BytesAt M x l) {lo hi : Option AV} {a r : Nat}
    (hlo : (lo = none ∧ a = 0) ∨ lo = some (.val (.int .i64 (a : Int)))) (hhi : (hi = none ∧ r = l.length) ∨ hi = some (.val (.int .i64 (r : Int)))) (har : a ≤ r) (hrn : r ≤ l.length) :
    ∃ y, evSliceAt tb 91 x lo hi none = some y ∧ BytesAt M y ((l.take r).drop a) := by
  obtain ⟨y, h1, h2, _⟩ := SlAt.slice h ty91 rfl ty5 rfl (k1 := .i64) (k2 := .i64) hlo hhi har hrn
  refine ⟨y, h1, ?_⟩
  unfold BytesAt
  have e1 : ((l.take r).drop a).length = r - a := by simp; omega
  have e2 : bvs ((l.take r).drop a) = ((bvs l).drop (a * 1)).take ((r - a) * 1) := by
    unfold bvs
    rw [Nat.mul_one, Nat.mul_one, List.map_drop, List.map_take, List.drop_take]
  rw [e1, e2]; exact h2

/-- A slice has become another one by what was appended; whatever else there was stays. -/
structure GrowTo (M N : Mem) (x x' : AV) : Prop where
  wf : N.WF
  nxt : M.next ≤ N.next
  old : ∀ c, c < M.next → ¬ inBlk x c → N.get c = M.get c
  blk : ∀ c, inBlk x' c → M.next ≤ c ∨ inBlk x c

/-- What lies elsewhere reads as it did. -/
theorem GrowTo.keep {M N : Mem} {x x' y : AV} {l : List (BitVec 8)} (h : GrowTo M N x x') (hw : M.WF) (hy : BytesAt M y l) (hd : ∀ c, inBlk y c → ¬ inBlk x c) : BytesAt N y l :=
  SlAt.mono hy fun c r hin hc => by rw [h.old c (hw c r hc) (hd c hin)]; exact hc

end Go.Proofs.YtgoehfelpekhcaaGreatDoor

/- Sums, tags (turned from the first seat by ren.py). -/
set_option maxRecDepth 100000
namespace Go.Proofs.YtgoehfelpekhcaaGreatDoor
open Go.AM

def bit (r : BitVec 32) : BitVec 32 := if r &&& 1#32 = 1#32 then (r >>> 1) ^^^ 3988292384#32 else r >>> 1

def bits : Nat → BitVec 32 → BitVec 32
  | 0, r => r
  | n + 1, r => bits n (bit r)

def reg (r : BitVec 32) (l : List (BitVec 8)) : BitVec 32 := l.foldl (fun r x => bits 8 (r ^^^ x.setWidth 32)) r

def more (s : BitVec 32) (l : List (BitVec 8)) : BitVec 32 := ~~~ (reg (~~~ s) l)

theorem reg_take (r : BitVec 32) (l : List (BitVec 8)) (i : Nat) (hi : i < l.length) : reg r (l.take (i + 1)) = bits 8 (reg r (l.take i) ^^^ l[i].setWidth 32) := by
  rw [List.take_succ_eq_append_getElem hi]
  unfold reg
  rw [List.foldl_append]
  rfl

theorem bit_t {r : BitVec 32} (h : r &&& 1#32 = 1#32) : bit r = (r >>> 1) ^^^ 3988292384#32 := by unfold bit; rw [if_pos h]

theorem bit_f {r : BitVec 32} (h : ¬ r &&& 1#32 = 1#32) : bit r = r >>> 1 := by unfold bit; rw [if_neg h]

theorem wrap_u8_u32 (b : BitVec 8) : IntKind.u32.wrap (b.toNat : Int) = ((b.setWidth 32).toNat : Int) := by
  rw [wrap_u32, BitVec.toNat_setWidth]
  have := b.isLt
  omega

theorem iXor_u32 (a b : BitVec 32) : iXor .u32 (a.toNat : Int) (b.toNat : Int) = ((a ^^^ b).toNat : Int) := by
  show IntKind.u32.wrap ((BitVec.ofInt 32 (a.toNat : Int) ^^^ BitVec.ofInt 32 (b.toNat : Int)).toNat : Int) = _
  rw [ofInt_bv, ofInt_bv, wrap_u32_bv]

theorem iXor_poly (a : BitVec 32) : iXor .u32 (a.toNat : Int) 3988292384 = ((a ^^^ 3988292384#32).toNat : Int) := iXor_u32 a 3988292384#32

theorem iAnd1_u32 (a : BitVec 32) : iAnd .u32 (a.toNat : Int) 1 = ((a &&& 1#32).toNat : Int) := by
  show IntKind.u32.wrap ((BitVec.ofInt 32 (a.toNat : Int) &&& BitVec.ofInt 32 ((1#32).toNat : Int)).toNat : Int) = _
  rw [ofInt_bv, ofInt_bv, wrap_u32_bv]

theorem iShr1_u32 (a : BitVec 32) : iShr .u32 (a.toNat : Int) 1 = ((a >>> 1).toNat : Int) := by
  show Int.fdiv (a.toNat : Int) 2 = _
  rw [Int.fdiv_eq_ediv_of_nonneg _ (by omega), BitVec.toNat_ushiftRight, Nat.shiftRight_eq_div_pow]
  omega

theorem eq1_u32 (a : BitVec 32) : ((a.toNat : Int) == 1) = decide (a = 1#32) := by
  rw [Bool.eq_iff_iff]
  simp only [beq_iff_eq, decide_eq_true_eq]
  constructor
  · intro h; exact BitVec.eq_of_toNat_eq (by simp; omega)
  · intro h; rw [h]; rfl

theorem crc_more (M : Mem) (s : BitVec 32) (x : AV) (l : List (BitVec 8)) (hx : BytesAt M x l) (hl : l.length ≤ 9223372036854775806) :
    CallA tb.P 259 [.val (.int .u32 s.toNat), x] M fun y N => y = .val (.int .u32 (more s l).toNat) ∧ N = M := by
  refine F259_ok ?_
  unfold F259
  simp only [zI_int]
  refine bindO_i (eUn_some (not_u32 _ s)) ?_
  simp only [ofV, zI_int]
  refine bindO_i (eLen_some hx.len) ?_
  simp only [zI_int]
  refine ⟨fun z k n N => ∃ i : Nat, z = ((reg (~~~ s) (l.take i)).toNat : Int) ∧ k = i ∧ n = l.length - i ∧ i ≤ l.length ∧ N = M, ⟨l.length, 0, rfl, rfl, rfl, Nat.zero_le _, rfl⟩, ?_⟩
  rintro _ z k n N ⟨i, rfl, rfl, rfl, hi, rfl⟩
  refine condB_i (fun hlt => ?_) (fun hge => ?_)
  · have hlt : i < l.length := by simpa using hlt
    obtain ⟨b, o, hia, hld⟩ := hx.at hlt
    refine bindO_i (eIA_some hia) ?_
    refine bindO_i (eLd_some hld) ?_
    simp only [zI_int, wrap_u8_u32, iXor_u32]
    refine ⟨fun z k n N' => ∃ (r : BitVec 32) (q : Nat), z = (r.toNat : Int) ∧ k = ((8 - q : Nat) : Int) ∧ q ≤ 8 ∧ n = q ∧ N' = N ∧ bits q r = reg (~~~ s) (l.take (i + 1)), ⟨8, _, 8, rfl, rfl, Nat.le_refl _, rfl, rfl, (reg_take _ l i hlt).symm⟩, ?_⟩
    rintro _ z k n N' ⟨r, q, rfl, rfl, hq, rfl, rfl, hr⟩
    refine condB_i (fun hlt' => ?_) (fun hge' => ?_)
    · have hn0 : 0 < n := by have : ((8 - n : Nat) : Int) < 8 := by simpa using hlt'
                             omega
      have hbits : bits (n - 1) (bit r) = reg (~~~ s) (l.take (i + 1)) := by
        rw [← hr, show n = (n - 1) + 1 by omega]; rfl
      simp only [letP_eq, iShr1_u32, iXor_poly, iAnd1_u32, eq1_u32, iInc (show 8 - n < 9223372036854775807 by omega)]
      refine condB_i (fun hb => ?_) (fun hb => ?_)
      · exact ⟨n - 1, by omega, _, n - 1, rfl, by rw [show 8 - (n - 1) = 8 - n + 1 by omega], by omega, rfl, by trivial, by rw [← bit_t (by simpa using hb)]; exact hbits⟩
      · exact ⟨n - 1, by omega, _, n - 1, rfl, by rw [show 8 - (n - 1) = 8 - n + 1 by omega], by omega, rfl, by trivial, by rw [← bit_f (by simpa using hb)]; exact hbits⟩
    · have hn0 : n = 0 := by have : ¬ ((8 - n : Nat) : Int) < 8 := by simpa using hge'
                             omega
      subst hn0
      refine ⟨l.length - (i + 1), by omega, i + 1, ?_, iInc (by omega), rfl, hlt, rfl⟩
      rw [← hr]; rfl
  · have hge : i = l.length := by have : ¬ (i : Int) < l.length := by simpa using hge
                                  omega
    subst hge
    refine bindO_i (eUn_some (not_u32 _ _)) ?_
    simp only [ofV, zI_int, List.take_length, more, and_self]

def byteOf (n : Int) (i : Nat) : BitVec 8 := BitVec.ofInt 8 (n.fdiv (2 ^ (8 * i)))

/-- A number's bytes, the highest first. -/
def be (n : Int) : Nat → List (BitVec 8)
  | 0 => []
  | s + 1 => byteOf n s :: be n s

@[simp] theorem be_length (n : Int) : ∀ s, (be n s).length = s
  | 0 => rfl
  | s + 1 => by simp [be, be_length n s]

/-- A number of bytes, the highest first. -/
def val (l : List (BitVec 8)) : Nat := l.foldl (fun n b => n * 256 + b.toNat) 0

/-- What stands ahead of the sum. -/
def body (d : List (BitVec 8)) (k p s e : Int) : List (BitVec 8) := d ++ [74#8, BitVec.ofInt 8 k] ++ be p 2 ++ be s 4 ++ be e 3

/-- A raw page. -/
def laid (d : List (BitVec 8)) (k p s e : Int) : List (BitVec 8) := body d k p s e ++ be ((more 0#32 (body d k p s e)).toNat : Int) 4 ++ [0#8]

@[simp] theorem body_length (d : List (BitVec 8)) (k p s e : Int) : (body d k p s e).length = d.length + 11 := by simp [body]

@[simp] theorem laid_length (d : List (BitVec 8)) (k p s e : Int) : (laid d k p s e).length = d.length + 16 := by simp [laid]

/-- On the way: what was laid so far; the tag lies still. -/
structure Lying (M P : Mem) (row : Row) (u : AV) (l : List (BitVec 8)) : Prop where
  gr : Gr P u l
  wf : P.WF
  box : P.get M.next = some row
  fresh : ∀ c, inBlk u c → M.next < c
  keep : Keep M P []

theorem Lying.step {M P P' : Mem} {row : Row} {u u' : AV} {l l' : List (BitVec 8)} (h : Lying M P row u l) (hg : GrowTo P P' u u') (hl : Gr P' u' l') : Lying M P' row u' l' :=
  ⟨hl, hg.wf, by
    rw [hg.old M.next (h.wf _ _ h.box) (fun hc => by have := h.fresh _ hc; omega)]
    exact h.box, fun c hc => by
    rcases hg.blk c hc with h1 | h1
    · exact Nat.lt_of_lt_of_le (h.wf _ _ h.box) h1
    · exact h.fresh c h1, ⟨hg.wf, Nat.le_trans h.keep.nxt hg.nxt, fun c hc _ => by
    rw [hg.old c (Nat.lt_of_lt_of_le hc h.keep.nxt) (fun hi => by have := h.fresh c hi; omega)]
    exact h.keep.old c hc (by simp)⟩⟩

end Go.Proofs.YtgoehfelpekhcaaGreatDoor

/- Raw pages as they are read (turned from the first seat by ren.py). -/
set_option maxRecDepth 100000
namespace Go.Proofs.YtgoehfelpekhcaaGreatDoor
open Go.AM

theorem t_lit (M : Mem) (b : BitVec 8) : CallA tb.P 203 [.val (.int .u8 (b.toNat : Int))] M fun y N => y = .val (.bool (decide (b ≠ 255#8))) ∧ N = M := by
  refine F203_ok ?_
  unfold F203
  simp only [zI_int]
  refine ⟨?_, by trivial⟩
  congr 2
  rw [Bool.eq_iff_iff]
  simp only [bne_iff_ne, ne_eq, decide_eq_true_eq]
  refine not_congr ⟨fun h => BitVec.eq_of_toNat_eq ?_, fun h => by rw [h]; rfl⟩
  have : (255#8).toNat = 255 := rfl
  omega

theorem t_index (M : Mem) (x : AV) (l : List (BitVec 8)) (hx : BytesAt M x l) (hl : l.length ≤ 1000000) :
    CallA tb.P 258 [x, .fn 203 [] []] M fun y N => N = M ∧ ((∃ i : Nat, y = i64 i ∧ ∃ h : i < l.length, l[i] ≠ 255#8) ∨ (y = i64 (-1) ∧ ∀ b ∈ l, b = 255#8)) := by
  refine F258_ok ?_
  unfold F258
  refine bindO_i (eLen_some hx.len) ?_
  simp only [zI_int]
  refine ⟨fun z q P => ∃ i : Nat, z = i ∧ q = l.length - i ∧ i ≤ l.length ∧ P = M ∧ ∀ b ∈ l.take i, b = 255#8, ⟨l.length, 0, rfl, rfl, Nat.zero_le _, rfl, by simp⟩, ?_⟩
  rintro _ z q P ⟨i, rfl, rfl, hi, rfl, hall⟩
  refine condB_i (fun hlt => ?_) (fun hge => ?_)
  · have hlt : i < l.length := by simpa using hlt
    obtain ⟨b, o, hia, hld⟩ := hx.at hlt
    refine bindO_i (eIA_some hia) ?_
    refine bindO_i (eLd_some hld) ?_
    simp only [zI_int]
    refine eCall_i fn203 ?_
    refine (t_lit P l[i]).mono ?_
    rintro y N ⟨rfl, rfl⟩
    simp only [zB_bool]
    refine condB_i (fun h => ⟨by trivial, .inl ⟨i, rfl, hlt, by simpa using h⟩⟩) (fun h => ?_)
    have h : l[i] = 255#8 := by simpa using h
    refine ⟨l.length - (i + 1), by omega, i + 1, iInc (by omega), rfl, hlt, by trivial, fun b hb => ?_⟩
    rw [List.take_succ_eq_append_getElem hlt, List.mem_append] at hb
    rcases hb with hb | hb
    · exact hall b hb
    · simp only [List.mem_singleton] at hb
      rw [hb, h]
  · have hge : i = l.length := by have : ¬ (i : Int) < l.length := by simpa using hge
                                  omega
    subst hge
    rw [List.take_length] at hall
    exact ⟨rfl, .inr ⟨rfl, hall⟩⟩

theorem drop_take {α : Type} (l : List α) (i : Nat) : (l.take l.length).drop i = l.drop i := by rw [List.take_length]

end Go.Proofs.YtgoehfelpekhcaaGreatDoor

/- What was laid is read; the document's Read (turned from the first seat by ren.py). -/
set_option maxRecDepth 100000
namespace Go.Proofs.YtgoehfelpekhcaaGreatDoor
open Go.AM

def tail16 (k p s e : Int) (c : BitVec 32) : List (BitVec 8) := [74#8, BitVec.ofInt 8 k] ++ be p 2 ++ be s 4 ++ be e 3 ++ be (c.toNat : Int) 4 ++ [0#8]

@[simp] theorem tail16_length (k p s e : Int) (c : BitVec 32) : (tail16 k p s e c).length = 16 := by simp [tail16]

section
variable (k p s e : Int) (c : BitVec 32)
end


end Go.Proofs.YtgoehfelpekhcaaGreatDoor

/- Geometries. -/
set_option maxRecDepth 100000
namespace Go.Proofs.YtgoehfelpekhcaaGreatDoor
open Go.AM

structure Geo where
  bl : Int
  pg : Int
  by' : Int
  sp : Int
  tr : Int
def geoC (g : Geo) : List AV := [i64 g.bl, i64 g.pg, i64 g.by', i64 g.sp, i64 g.tr]
def geoA (g : Geo) : AV := .agg (geoC g)
def placeA (b p : Int) : AV := .agg [i64 b, i64 p]
def inB (a lo hi : Int) : Bool := decide (lo ≤ a) && decide (a ≤ hi)
def mayG (g : Geo) : Bool := inB g.bl 8 20 && (inB g.pg 4 8 && (inB g.by' 24 64 && (inB g.sp 0 4 && (inB g.tr 2 20 && decide (12 ≤ (g.bl - g.sp - 3) * g.pg)))))

theorem ty55 : tb.ty.get 55 = some ⟨.st [(0, 1, false), (1, 1, false), (2, 1, false), (3, 1, false), (4, 1, false)], 5, 40, [.int .i64 0, .int .i64 0, .int .i64 0, .int .i64 0, .int .i64 0], some [3, 3, 3, 3, 3]⟩ := by kernel_rfl
theorem ty88 : tb.ty.get 88 = some ⟨.st [(0, 1, false), (1, 1, false)], 2, 16, [.int .i64 0, .int .i64 0], some [3, 3]⟩ := by kernel_rfl
theorem mayG_iff {g : Geo} : mayG g = true ↔ (8 ≤ g.bl ∧ g.bl ≤ 20) ∧ (4 ≤ g.pg ∧ g.pg ≤ 8) ∧ (24 ≤ g.by' ∧ g.by' ≤ 64) ∧ (0 ≤ g.sp ∧ g.sp ≤ 4) ∧ (2 ≤ g.tr ∧ g.tr ≤ 20) ∧ 12 ≤ (g.bl - g.sp - 3) * g.pg := by
  unfold mayG inB
  simp only [Bool.and_eq_true, decide_eq_true_eq]

theorem geo_ld {M : Mem} {b : Nat} {g : Geo} {rw' : Bool} (hg : M.get b = some (.cells (geoC g) rw')) :
    evLoad tb 3 (.ptr b 0) M = some (i64 g.bl) ∧ evLoad tb 3 (.ptr b 1) M = some (i64 g.pg) ∧ evLoad tb 3 (.ptr b 2) M = some (i64 g.by') ∧ evLoad tb 3 (.ptr b 3) M = some (i64 g.sp) ∧ evLoad tb 3 (.ptr b 4) M = some (i64 g.tr) ∧ evLoad tb 55 (.ptr b 0) M = some (geoA g) :=
  ⟨ld_cell ty3 rfl hg rfl, ld_cell ty3 rfl hg rfl, ld_cell ty3 rfl hg rfl, ld_cell ty3 rfl hg rfl, ld_cell ty3 rfl hg rfl, ld_agg (n := 5) ty55 rfl rfl hg (by simp [geoC])⟩

theorem place_ld {M : Mem} {b : Nat} {k p : Int} {rw' : Bool} (hg : M.get b = some (.cells [i64 k, i64 p] rw')) :
    evLoad tb 3 (.ptr b 0) M = some (i64 k) ∧ evLoad tb 3 (.ptr b 1) M = some (i64 p) ∧ evLoad tb 88 (.ptr b 0) M = some (placeA k p) :=
  ⟨ld_cell ty3 rfl hg rfl, ld_cell ty3 rfl hg rfl, ld_agg (n := 2) ty88 rfl rfl hg (by simp)⟩

theorem get_new (M : Mem) (r : Row) : (M.new r).get M.next = some r := by rw [Mem.get_new, if_pos rfl]

theorem mul_bnd {a b : Int} (ha : -1000 ≤ a) (ha2 : a ≤ 1000) (hb : 0 ≤ b) (hb2 : b ≤ 1000) : -1000000 ≤ a * b ∧ a * b ≤ 1000000 := by
  constructor
  · have h1 : (-1000) * b ≤ a * b := Int.mul_le_mul_of_nonneg_right ha hb
    omega
  · have h1 : a * b ≤ 1000 * b := Int.mul_le_mul_of_nonneg_right ha2 hb
    omega

theorem half_eq {bl sp pg : Int} (h1 : 8 ≤ bl ∧ bl ≤ 20) (h2 : 4 ≤ pg ∧ pg ≤ 8) (h3 : 0 ≤ sp ∧ sp ≤ 4) : iSub .i64 (iMul .i64 (iSub .i64 (iSub .i64 bl sp) 3) pg) 4 = (bl - sp - 3) * pg - 4 ∧ -1000000 ≤ (bl - sp - 3) * pg ∧ (bl - sp - 3) * pg ≤ 1000000 := by
  have hm := mul_bnd (a := bl - sp - 3) (b := pg) (by omega) (by omega) (by omega) (by omega)
  refine ⟨?_, hm⟩
  have e1 : iSub .i64 bl sp = bl - sp := by rw [iSub, wrap_i64' (by omega) (by omega)]
  have e2 : iSub .i64 (bl - sp) 3 = bl - sp - 3 := by rw [iSub, wrap_i64' (by omega) (by omega)]
  have e3 : iMul .i64 (bl - sp - 3) pg = (bl - sp - 3) * pg := by rw [iMul, wrap_i64' (by omega) (by omega)]
  rw [e1, e2, e3, iSub, wrap_i64' (by omega) (by omega)]

theorem c_in120 (M : Mem) (a b c : Int) : CallA tb.P 138 [i64 a, i64 b, i64 c] M fun y N => y = .val (.bool (inB a b c)) ∧ N = M := by
  refine F138_ok ?_
  unfold F138 inB
  simp only [i64, zI_int, letP_eq]
  refine condB_i (fun h => ?_) (fun h => ?_)
  · have h : b ≤ a := by simpa using h
    simp [h]
  · have h : ¬ b ≤ a := by simpa using h
    simp [h]

theorem c_half121 (M : Mem) (hw : M.WF) (g : Geo) (h1 : 8 ≤ g.bl ∧ g.bl ≤ 20) (h2 : 4 ≤ g.pg ∧ g.pg ≤ 8) (h3 : 0 ≤ g.sp ∧ g.sp ≤ 4) : CallA tb.P 139 [geoA g] M fun y N => (∃ z, y = i64 z ∧ decide (z ≥ 4) = decide (12 ≤ (g.bl - g.sp - 3) * g.pg)) ∧ Keep M N [] := by
  refine F139_ok ?_
  unfold F139
  refine ⟨_, _, _, _, _, rfl, ?_⟩
  simp only [letP_eq]
  have hg := get_new M (.cells (geoC g) true)
  obtain ⟨l0, l1, l2, l3, l4, _⟩ := geo_ld hg
  have hK := Keep.new hw (.cells (geoC g) true)
  refine bindO_i (eLd_some l0) ?_
  simp only [i64, zI_int]
  refine bindO_i (eLd_some l3) ?_
  simp only [i64, zI_int]
  refine bindO_i (eLd_some l1) ?_
  simp only [i64, zI_int]
  obtain ⟨e, hb1, hb2⟩ := half_eq h1 h2 h3
  rw [e]
  generalize (g.bl - g.sp - 3) * g.pg = m at hb1 hb2 ⊢
  refine ⟨⟨_, rfl, ?_⟩, hK⟩
  by_cases hp : 0 ≤ m - 4
  · rw [iQuo, Int.tdiv_eq_ediv_of_nonneg hp, wrap_i64' (by omega) (by omega), decide_eq_decide]
    omega
  · have e5 : (m - 4).tdiv 2 = - ((4 - m) / 2) := by
      rw [show m - 4 = -(4 - m) by omega, Int.neg_tdiv, Int.tdiv_eq_ediv_of_nonneg (by omega)]
    rw [iQuo, e5, wrap_i64' (by omega) (by omega), decide_eq_decide]
    omega

theorem c_may102 (M : Mem) (hw : M.WF) (g : Geo) : CallA tb.P 73 [geoA g] M fun y N => y = .val (.bool (mayG g)) ∧ Keep M N [] := by
  refine F73_ok ?_
  unfold F73
  refine ⟨_, _, _, _, _, rfl, ?_⟩
  simp only [letP_eq]
  have hg := get_new M (.cells (geoC g) true)
  obtain ⟨l0, l1, l2, l3, l4, l5⟩ := geo_ld hg
  have hK := Keep.new hw (.cells (geoC g) true)
  unfold mayG
  refine bindO_i (eLd_some l0) ?_
  simp only [i64, zI_int]
  refine (c_in120 _ g.bl 8 20).mono ?_
  rintro y N ⟨rfl, rfl⟩
  simp only [zB_bool]
  generalize hh0 : inB g.bl 8 20 = q0
  refine condB_i (fun h => ?_) (fun h => ⟨by rw [h]; rfl, hK⟩)
  subst h
  rw [Bool.true_and]
  refine bindO_i (eLd_some l1) ?_
  simp only [i64, zI_int]
  refine (c_in120 _ g.pg 4 8).mono ?_
  rintro y N ⟨rfl, rfl⟩
  simp only [zB_bool]
  generalize hh1 : inB g.pg 4 8 = q1
  refine condB_i (fun h => ?_) (fun h => ⟨by rw [h]; rfl, hK⟩)
  subst h
  rw [Bool.true_and]
  refine bindO_i (eLd_some l2) ?_
  simp only [i64, zI_int]
  refine (c_in120 _ g.by' 24 64).mono ?_
  rintro y N ⟨rfl, rfl⟩
  simp only [zB_bool]
  generalize hh2 : inB g.by' 24 64 = q2
  refine condB_i (fun h => ?_) (fun h => ⟨by rw [h]; rfl, hK⟩)
  subst h
  rw [Bool.true_and]
  refine bindO_i (eLd_some l3) ?_
  simp only [i64, zI_int]
  refine (c_in120 _ g.sp 0 4).mono ?_
  rintro y N ⟨rfl, rfl⟩
  simp only [zB_bool]
  generalize hh3 : inB g.sp 0 4 = q3
  refine condB_i (fun h => ?_) (fun h => ⟨by rw [h]; rfl, hK⟩)
  subst h
  rw [Bool.true_and]
  refine bindO_i (eLd_some l4) ?_
  simp only [i64, zI_int]
  refine (c_in120 _ g.tr 2 20).mono ?_
  rintro y N ⟨rfl, rfl⟩
  simp only [zB_bool]
  generalize hh4 : inB g.tr 2 20 = q4
  refine condB_i (fun h => ?_) (fun h => ⟨by rw [h]; rfl, hK⟩)
  subst h
  rw [Bool.true_and]
  refine bindO_i (eLd_some l5) ?_
  refine ⟨_, _, _, _, _, rfl, ?_⟩
  unfold inB at hh0 hh1 hh3
  simp only [Bool.and_eq_true, decide_eq_true_eq] at hh0 hh1 hh3
  refine (c_half121 _ hK.wf g hh0 hh1 hh3).mono ?_
  rintro y N ⟨⟨z, rfl, hz⟩, hk2⟩
  simp only [i64, zI_int]
  exact ⟨by rw [hz], hK.trans0 hk2⟩

/-! ## Of a geometry that may be -/

def rawN (g : Geo) : Nat := (g.by' + 16).toNat
def isG (g : Geo) (b p : Int) : Bool := inB b 0 (g.bl - 1) && inB p 0 (g.pg - 1)

theorem c_when (M : Mem) (hw : M.WF) (g : Geo) (h : mayG g = true) (n : Int) : CallA tb.P 136 [geoA g, i64 n] M fun y N => y = i64 n ∧ Keep M N [] := by
  refine F136_ok ?_
  unfold F136
  refine ⟨_, _, _, _, _, rfl, ?_⟩
  simp only [letP_eq, i64, zI_int]
  have hg := get_new M (.cells (geoC g) true)
  obtain ⟨l0, l1, l2, l3, l4, l5⟩ := geo_ld hg
  have hK := Keep.new hw (.cells (geoC g) true)
  refine bindO_i (eLd_some l5) ?_
  refine ⟨_, _, _, _, _, rfl, ?_⟩
  refine (c_may102 _ hK.wf g).mono ?_
  rintro y N ⟨rfl, hk⟩
  simp only [zB_bool, h]
  exact condB_i (fun h => by simp at h) (fun _ => ⟨by trivial, hK.trans0 hk⟩)

theorem c_raw (M : Mem) (hw : M.WF) (g : Geo) (h : mayG g = true) : CallA tb.P 70 [geoA g] M fun y N => y = i64 (rawN g) ∧ Keep M N [] := by
  refine F70_ok ?_
  unfold F70
  refine ⟨_, _, _, _, _, rfl, ?_⟩
  simp only [letP_eq]
  have hg := get_new M (.cells (geoC g) true)
  obtain ⟨l0, l1, l2, l3, l4, l5⟩ := geo_ld hg
  have hK := Keep.new hw (.cells (geoC g) true)
  refine bindO_i (eLd_some l5) ?_
  refine ⟨_, _, _, _, _, rfl, ?_⟩
  refine bindO_i (eLd_some l2) ?_
  simp only [i64, zI_int]
  refine bindO_i (eLd_some l5) ?_
  refine ⟨_, _, _, _, _, rfl, ?_⟩
  refine (c_when _ hK.wf g h _).mono ?_
  rintro y N ⟨rfl, hk⟩
  simp only [i64, zI_int]
  have hg2 := hk.get hK.wf hg (by simp)
  obtain ⟨_, _, _, _, _, m5⟩ := geo_ld hg2
  refine ⟨bindO_i (eLd_some m5) rfl, ?_⟩
  refine (c_when _ hk.wf g h _).mono ?_
  rintro y N' ⟨rfl, hk'⟩
  simp only [i64, zI_int]
  refine ⟨?_, hK.trans0 (hk.trans0 hk')⟩
  have hm := mayG_iff.1 h
  rw [iAdd, wrap_i64' (by omega) (by omega)]
  unfold rawN
  congr 3
  omega

theorem c_is (M : Mem) (hw : M.WF) (g : Geo) (h : mayG g = true) (b p : Int) : CallA tb.P 137 [geoA g, placeA b p] M fun y N => y = .val (.bool (isG g b p)) ∧ Keep M N [] := by
  refine F137_ok ?_
  unfold F137
  refine ⟨_, _, _, _, _, rfl, _, _, rfl, ?_⟩
  simp only [letP_eq]
  have hg := get_new M (.cells (geoC g) true)
  have hK := Keep.new hw (.cells (geoC g) true)
  have hK2 := Keep.new hK.wf (.cells [i64 b, i64 p] true)
  have hg2 := hK2.get hK.wf hg (by simp)
  have hp2 := get_new (M.new (.cells (geoC g) true)) (.cells [i64 b, i64 p] true)
  obtain ⟨l0, l1, l2, l3, l4, l5⟩ := geo_ld hg2
  refine bindO_i (eLd_some l5) ?_
  refine ⟨_, _, _, _, _, rfl, ?_⟩
  refine (c_may102 _ hK2.wf g).mono ?_
  rintro y N ⟨rfl, hk⟩
  simp only [zB_bool, h]
  refine condB_i (fun _ => ?_) (fun h => by simp at h)
  have hgN := hk.get hK2.wf hg2 (by simp)
  have hpN := hk.get hK2.wf hp2 (by simp)
  obtain ⟨k0, k1, _⟩ := geo_ld hgN
  obtain ⟨p0, p1, _⟩ := place_ld hpN
  have hm := mayG_iff.1 h
  have hall := hK.trans0 (hK2.trans0 hk)
  unfold isG
  refine bindO_i (eLd_some p0) ?_
  simp only [i64, zI_int]
  refine bindO_i (eLd_some k0) ?_
  simp only [i64, zI_int]
  rw [show iSub .i64 g.bl 1 = g.bl - 1 by rw [iSub, wrap_i64' (by omega) (by omega)]]
  refine (c_in120 _ _ _ _).mono ?_
  rintro y N' ⟨rfl, rfl⟩
  simp only [zB_bool]
  refine condB_i (fun hb => ?_) (fun hb => ⟨by rw [hb]; rfl, hall⟩)
  rw [hb, Bool.true_and]
  refine bindO_i (eLd_some p1) ?_
  simp only [i64, zI_int]
  refine bindO_i (eLd_some k1) ?_
  simp only [i64, zI_int]
  rw [show iSub .i64 g.pg 1 = g.pg - 1 by rw [iSub, wrap_i64' (by omega) (by omega)]]
  refine (c_in120 _ _ _ _).mono ?_
  rintro y N' ⟨rfl, rfl⟩
  simp only [zB_bool]
  exact ⟨by trivial, hall⟩

end Go.Proofs.YtgoehfelpekhcaaGreatDoor

/- Faults. -/
set_option maxRecDepth 100000
namespace Go.Proofs.YtgoehfelpekhcaaGreatDoor
open Go.AM

structure Flt where
  blk : Int
  fac : Bool
  aft : Int
def fltC (f : Flt) : List AV := [i64 f.blk, .val (.bool f.fac), i64 f.aft]
def fltA (f : Flt) : AV := .agg (fltC f)
theorem fltC_len (f : Flt) : (fltC f).length = 3 := rfl
def FltsAt (M : Mem) (x : AV) (fs : List Flt) : Prop := SlAt 3 M x fs.length (fs.flatMap fltC)

theorem ty145 : tb.ty.get 145 = some ⟨.st [(0, 1, false), (1, 1, false), (2, 1, false)], 3, 24, [.int .i64 0, .bool false, .int .i64 0], some [3, 4, 3]⟩ := by kernel_rfl
theorem ty81 : tb.ty.get 81 = some ⟨.sli 145, 1, 24, [.slice none 0 0], none⟩ := by kernel_rfl

theorem FltsAt.len {M M' : Mem} {x : AV} {fs : List Flt} (h : FltsAt M x fs) : evLenCap tb false 81 x M' = some fs.length := SlAt.len h ty81 rfl
theorem FltsAt.at {M : Mem} {x : AV} {fs : List Flt} (h : FltsAt M x fs) {i : Nat} (hi : i < fs.length) :
    ∃ b o, evIndexAddr tb 81 x (.val (.int .i64 (i : Int))) = some (.ptr b o) ∧ evLoad tb 145 (.ptr b o) M = some (fltA fs[i]) := by
  obtain ⟨b, o, h1, h2⟩ := SlAt.ldAgg h ty81 rfl ty145 rfl rfl hi (k' := .i64)
  rw [flat_at fltC_len hi] at h2
  exact ⟨b, o, h1, h2⟩

def findF (fs : List Flt) (b : Int) : Option Flt := fs.find? fun f => f.blk == b
def failsF (fs : List Flt) (b d : Int) : Bool := match findF fs b with
  | some f => decide (f.aft ≤ d)
  | none => false
end Go.Proofs.YtgoehfelpekhcaaGreatDoor

/- Which faults may be. -/
set_option maxRecDepth 100000
namespace Go.Proofs.YtgoehfelpekhcaaGreatDoor
open Go.AM

theorem FltsAt.take {M : Mem} {x : AV} {fs : List Flt} (h : FltsAt M x fs) {i : Nat} (hi : i ≤ fs.length) : ∃ y, evSliceAt tb 81 x none (some (.val (.int .i64 (i : Int)))) none = some y ∧ FltsAt M y (fs.take i) := by
  obtain ⟨y, h1, h2, _⟩ := SlAt.slice h ty81 rfl ty145 rfl (lo := none) (hi := some (.val (.int .i64 (i : Int)))) (l := 0) (r := i) (k1 := .i64) (k2 := .i64) (.inl ⟨rfl, rfl⟩) (.inr rfl) (Nat.zero_le _) hi
  refine ⟨y, h1, ?_⟩
  unfold FltsAt
  have e1 : (fs.take i).length = i - 0 := by rw [List.length_take]; omega
  have e2 : (fs.take i).flatMap fltC = ((fs.flatMap fltC).drop (0 * 3)).take ((i - 0) * 3) := by
    rw [Nat.zero_mul, List.drop_zero, Nat.sub_zero]
    conv => rhs; rw [← List.take_append_drop i fs, List.flatMap_append]
    rw [List.take_left' (by rw [flat_length fltC_len, List.length_take, Nat.min_eq_left hi])]
  rw [e1, e2]
  exact h2

end Go.Proofs.YtgoehfelpekhcaaGreatDoor

/- The document's faults and the program's: alike. -/
set_option maxRecDepth 100000
namespace Go.Proofs.YtgoehfelpekhcaaGreatDoor
open Go.AM

/-- No two faults of one block. -/
def Apart (fs : List Flt) : Prop := ∀ f ∈ fs, ∀ h ∈ fs, f.blk = h.blk → f = h

end Go.Proofs.YtgoehfelpekhcaaGreatDoor

/- What a chip is in memory; power, operations. -/
set_option maxRecDepth 100000
namespace Go.Proofs.YtgoehfelpekhcaaGreatDoor
open Go.AM

structure Blk where
  b : Nat
  by' : List (BitVec 8)
  next : Int
  wear : Int
  done : Int
def blkC (B : Blk) : List AV := [.sl B.b 0 B.by'.length B.by'.length none, i64 B.next, i64 B.wear, i64 B.done]
structure Chip where
  g : Geo
  fsA : AV
  fs : List Flt
  bb : Nat
  bs : List Blk
  off : Bool
  ops : Int
  cuts : Int
  cop : Int
  cby : Int
  cf : BitVec 8
  turn : Int
def blksA (C : Chip) : AV := .sl C.bb 0 C.bs.length C.bs.length (some 4)
def chipC (C : Chip) : List AV := [i64 C.g.bl, i64 C.g.pg, i64 C.g.by', i64 C.g.sp, i64 C.g.tr, C.fsA, blksA C, .val (.bool C.off), i64 C.ops, i64 C.cuts, i64 C.cop, i64 C.cby, bv8 C.cf, i64 C.turn]
def foot (p : Nat) (C : Chip) : List Nat := p :: C.bb :: C.bs.map (·.b)

structure ChipAt (M : Mem) (p : Nat) (C : Chip) : Prop where
  main : M.get p = some (.cells (chipC C) true)
  tab : M.get C.bb = some (.cells (C.bs.flatMap blkC) true)
  dat : ∀ B ∈ C.bs, M.get B.b = some (.cells (bvs B.by') true)
  flt : FltsAt M C.fsA C.fs
  nd : (foot p C).Nodup
  fsx : ∀ c, inBlk C.fsA c → c ∉ foot p C
  one : C.fsA.one = true
  fsl : C.fs.length ≤ 8
  may : mayG C.g = true
  len : C.bs.length = C.g.bl.toNat
  ful : ∀ B ∈ C.bs, B.by'.length = C.g.pg.toNat * rawN C.g
  cby0 : 0 ≤ C.cby

theorem ChipAt.keep {M N : Mem} {p : Nat} {C : Chip} (h : ChipAt M p C) (hw : M.WF) (hk : Keep M N []) : ChipAt N p C :=
  ⟨hk.get hw h.main (by simp), hk.get hw h.tab (by simp), fun B hB => hk.get hw (h.dat B hB) (by simp), SlAt.keep0 h.flt hw hk, h.nd, h.fsx, h.one, h.fsl, h.may, h.len, h.ful, h.cby0⟩

structure Step (M N : Mem) (p : Nat) (C C' : Chip) : Prop where
  at' : ChipAt N p C'
  keep : Keep M N (foot p C)
  foot : foot p C' = foot p C
  fsA : C'.fsA = C.fsA
  fs : C'.fs = C.fs
  g : C'.g = C.g

theorem Step.of0 {M N : Mem} {p : Nat} {C : Chip} (hw : M.WF) (h : ChipAt M p C) (hk : Keep M N []) : Step M N p C C := ⟨h.keep hw hk, hk.mono (by simp), rfl, rfl, rfl, rfl⟩
theorem Step.wf {M N : Mem} {p : Nat} {C C' : Chip} (h : Step M N p C C') : N.WF := h.keep.wf
/-! ## What is written -/

theorem nd_p {p : Nat} {C : Chip} (h : (foot p C).Nodup) : p ≠ C.bb ∧ ∀ B ∈ C.bs, p ≠ B.b ∧ C.bb ≠ B.b := by
  unfold foot at h
  rw [List.nodup_cons, List.nodup_cons] at h
  simp only [List.mem_cons, List.mem_map, not_or, not_exists, not_and] at h
  exact ⟨h.1.1, fun B hB => ⟨fun e => h.1.2 B hB e.symm, fun e => h.2.1 B hB e.symm⟩⟩

/-- The chip's own cells. -/
theorem ChipAt.set {M : Mem} {p : Nat} {C : Chip} (h : ChipAt M p C) (hw : M.WF) (C' : Chip) (h1 : C'.g = C.g) (h2 : C'.fsA = C.fsA) (h3 : C'.fs = C.fs) (h4 : C'.bb = C.bb) (h5 : C'.bs = C.bs) (h6 : 0 ≤ C'.cby) :
    Step M (M.put p (.cells (chipC C') true)) p C C' := by
  have hp := nd_p h.nd
  have hf : _root_.Go.Proofs.YtgoehfelpekhcaaGreatDoor.foot p C' = _root_.Go.Proofs.YtgoehfelpekhcaaGreatDoor.foot p C := by unfold foot; rw [h4, h5]
  refine ⟨⟨by rw [Mem.get_put, if_pos rfl], ?_, ?_, ?_, by rw [hf]; exact h.nd, by rw [hf, h2]; exact h.fsx, by rw [h2]; exact h.one, by rw [h3]; exact h.fsl, by rw [h1]; exact h.may, by rw [h1, h5]; exact h.len, by rw [h1, h5]; exact h.ful, h6⟩,
    (Keep.put hw (hw _ _ h.main) _).mono (fun b hb _ => by simp only [List.mem_singleton] at hb; subst hb; simp [foot]), hf, h2, h3, h1⟩
  · rw [h4, h5, Mem.get_put, if_neg (fun e => hp.1 e.symm)]; exact h.tab
  · rw [h5]
    intro B hB
    rw [Mem.get_put, if_neg (fun e => (hp.2 B hB).1 e.symm)]; exact h.dat B hB
  · rw [h2, h3]
    refine SlAt.mono h.flt fun b r hb hr => ?_
    rw [Mem.get_put, if_neg (fun e => h.fsx b hb (by rw [e]; simp [foot]))]; exact hr

/-! ## What is read -/

section
variable {p : Nat} {M : Mem}
variable {C : Chip} (h : ChipAt M p C)
include h
end

end Go.Proofs.YtgoehfelpekhcaaGreatDoor

/- Power, operations, what is asked. -/
set_option maxRecDepth 100000
namespace Go.Proofs.YtgoehfelpekhcaaGreatDoor
open Go.AM

/-! ## One operation more -/

def bgn (C : Chip) : Bool := !(C.turn == 0) && !(iAdd .i64 C.ops 1 != C.turn)
def bgC (C : Chip) : Chip := if bgn C = true then { C with ops := iAdd .i64 C.ops 1, turn := 0, off := true, cuts := iAdd .i64 C.cuts 1 } else { C with ops := iAdd .i64 C.ops 1 }

/-- What is answered ahead of an operation. -/
def askd (C : Chip) (b p : Int) : Int := if C.off = true then 9 else if isG C.g b p = true then 0 else 2

end Go.Proofs.YtgoehfelpekhcaaGreatDoor

/- What is told of a chip; a page; Read. -/
set_option maxRecDepth 100000
namespace Go.Proofs.YtgoehfelpekhcaaGreatDoor
open Go.AM

/-! ## What is told -/

/-! ## A page -/

theorem isG_iff {g : Geo} {b k : Int} : isG g b k = true ↔ (0 ≤ b ∧ b ≤ g.bl - 1) ∧ 0 ≤ k ∧ k ≤ g.pg - 1 := by
  unfold isG inB
  simp only [Bool.and_eq_true, decide_eq_true_eq]

def pageB (B : Blk) (raw j : Nat) : List (BitVec 8) := (B.by'.drop (j * raw)).take raw

/-! ## Read -/

theorem askd_zero {C : Chip} {b k : Int} (h : askd C b k = 0) : C.off = false ∧ isG C.g b k = true := by
  unfold askd at h
  split at h
  · omega
  · rename_i h1
    split at h
    · rename_i h2; exact ⟨by simpa using h1, h2⟩
    · omega

end Go.Proofs.YtgoehfelpekhcaaGreatDoor

/- Program, Erase, Arm, Boot. -/
set_option maxRecDepth 100000
namespace Go.Proofs.YtgoehfelpekhcaaGreatDoor
open Go.AM

theorem step_get {M N : Mem} {p : Nat} {C C' : Chip} (s : Step M N p C C') (hw : M.WF) {c : Nat} {r : Row} (hg : M.get c = some r) (hc : c ∉ foot p C) : N.get c = some r := s.keep.get hw hg hc

def Chip.upB (C : Chip) (i : Nat) (B : Blk) : Chip := { C with bs := C.bs.set i B }
section
variable {M : Mem} {p : Nat} {C : Chip} (h : ChipAt M p C) (hw : M.WF) {i : Nat} (hi : i < C.bs.length)
include h hw
end

/-! ## Bytes written over -/

def over (l : List (BitVec 8)) (o : Nat) (m : List (BitVec 8)) : List (BitVec 8) := l.take o ++ m ++ l.drop (o + m.length)
/-! ## Program -/

def pgS (C : Chip) (cut : Bool) (i j : Nat) (d : List (BitVec 8)) : Chip × Int :=
  match C.bs[i]? with
  | none => (C, 0)
  | some B =>
    if failsF C.fs i B.done = true then (C, 10)
    else if (j : Int) ≠ B.next then (C, 11)
    else if cut = true then (C.upB i { B with by' := over B.by' (j * rawN C.g) (d.take (min C.cby.toNat d.length)), next := iAdd .i64 B.next 1 }, 0)
    else (C.upB i { B with by' := over B.by' (j * rawN C.g) d, next := iAdd .i64 B.next 1, done := iAdd .i64 B.done 1 }, 0)
def pgR (C : Chip) (b k : Int) (d : List (BitVec 8)) : Chip × Int :=
  if askd C b k = 0 then
    (if d.length = rawN C.g then ((pgS (bgC C) (bgn C) b.toNat k.toNat d).1, if bgn C = true then 9 else (pgS (bgC C) (bgn C) b.toNat k.toNat d).2) else (C, 2))
  else (C, askd C b k)

end Go.Proofs.YtgoehfelpekhcaaGreatDoor

/- What New calls: Clone, Mul, Repeat; bytes. -/
set_option maxRecDepth 100000
namespace Go.Proofs.YtgoehfelpekhcaaGreatDoor
open Go.AM

/-! ## Clone -/

/-! ## Mul, Repeat -/

/-! ## bytes -/

def pat (v : BitVec 8) (n : Nat) : List (BitVec 8) := (List.range n).map fun i => v + BitVec.ofNat 8 (i * 7)
@[simp] theorem pat_length (v : BitVec 8) (n : Nat) : (pat v n).length = n := by simp [pat]

end Go.Proofs.YtgoehfelpekhcaaGreatDoor

/- The document's chip: fill, turn, Arm, Boot. -/
set_option maxRecDepth 100000
namespace Go.Proofs.YtgoehfelpekhcaaGreatDoor
open Go.AM

/-- The document's chip: its own cells. -/
structure Doc where
  g : Geo
  fsA : AV
  pgA : AV
  nxA : AV
  wrA : AV
  dnA : AV
  ops : Int
  cuts : Int
  off : Bool
  wait : Int
  cop : Int
  cby : Int
  cf : BitVec 8
def docC (D : Doc) : List AV := [i64 D.g.bl, i64 D.g.pg, i64 D.g.by', i64 D.g.sp, i64 D.g.tr, D.fsA, D.pgA, D.nxA, D.wrA, D.dnA, i64 D.ops, i64 D.cuts, .val (.bool D.off), i64 D.wait, i64 D.cop, i64 D.cby, bv8 D.cf]

section
variable {p : Nat} {M : Mem}
variable {D : Doc} (h : M.get p = some (.cells (docC D) true))
include h
end

end Go.Proofs.YtgoehfelpekhcaaGreatDoor

/- The document's chip in memory: pages, numbers of blocks. -/
set_option maxRecDepth 100000
namespace Go.Proofs.YtgoehfelpekhcaaGreatDoor
open Go.AM

/-- The document's chip: its own cells, its faults, its pages (each a slice, and what it reads as), its numbers; the blocks that they lie in. -/
structure DocS where
  d : Doc
  fs : List Flt
  pg : List (AV × List (BitVec 8))
  nx : List Int
  wr : List Int
  dn : List Int
  pb : Nat
  nb : Nat
  wb : Nat
  db : Nat
def intsI (l : List Int) : List AV := l.map i64
@[simp] theorem intsI_length (l : List Int) : (intsI l).length = l.length := by simp [intsI]
def own (p : Nat) (S : DocS) : List Nat := [p, S.pb, S.nb, S.wb, S.db]

structure DocAt (M : Mem) (p : Nat) (S : DocS) : Prop where
  main : M.get p = some (.cells (docC S.d) true)
  flt : FltsAt M S.d.fsA S.fs
  pgA : S.d.pgA = .sl S.pb 0 S.pg.length S.pg.length (some 1)
  nxA : S.d.nxA = .sl S.nb 0 S.nx.length S.nx.length none
  wrA : S.d.wrA = .sl S.wb 0 S.wr.length S.wr.length none
  dnA : S.d.dnA = .sl S.db 0 S.dn.length S.dn.length none
  pgs : M.get S.pb = some (.cells (S.pg.map (·.1)) true)
  nxs : M.get S.nb = some (.cells (intsI S.nx) true)
  wrs : M.get S.wb = some (.cells (intsI S.wr) true)
  dns : M.get S.db = some (.cells (intsI S.dn) true)
  byt : ∀ q ∈ S.pg, BytesAt M q.1 q.2 ∧ q.1.one = true ∧ ∀ c, inBlk q.1 c → c ∉ own p S
  nd : (own p S).Nodup
  fsx : ∀ c, inBlk S.d.fsA c → c ∉ own p S
  fsl : S.fs.length ≤ 8
  may : mayG S.d.g = true
  pgl : S.pg.length = S.d.g.bl.toNat * S.d.g.pg.toNat
  nxl : S.nx.length = S.d.g.bl.toNat
  wrl : S.wr.length = S.d.g.bl.toNat
  dnl : S.dn.length = S.d.g.bl.toNat
  raw : ∀ q ∈ S.pg, q.2.length = rawN S.d.g
  cby0 : 0 ≤ S.d.cby

theorem DocAt.keep {M N : Mem} {p : Nat} {S : DocS} (h : DocAt M p S) (hw : M.WF) (hk : Keep M N []) : DocAt N p S :=
  ⟨hk.get hw h.main (by simp), SlAt.keep0 h.flt hw hk, h.pgA, h.nxA, h.wrA, h.dnA, hk.get hw h.pgs (by simp), hk.get hw h.nxs (by simp), hk.get hw h.wrs (by simp), hk.get hw h.dns (by simp),
    fun q hq => ⟨SlAt.keep0 (h.byt q hq).1 hw hk, (h.byt q hq).2⟩, h.nd, h.fsx, h.fsl, h.may, h.pgl, h.nxl, h.wrl, h.dnl, h.raw, h.cby0⟩

section
variable {M : Mem} {p : Nat} {S : DocS} (h : DocAt M p S)
include h
end

end Go.Proofs.YtgoehfelpekhcaaGreatDoor

/- New. -/
set_option maxRecDepth 100000
namespace Go.Proofs.YtgoehfelpekhcaaGreatDoor
open Go.AM

def newC (g : Geo) (fsA x : AV) : List AV := [i64 g.bl, i64 g.pg, i64 g.by', i64 g.sp, i64 g.tr, fsA, x, .val (.bool false), i64 0, i64 0, i64 0, i64 0, bv8 0#8, i64 0]

/-- A chip on the way: so many blocks. 'M1': the memory when the first was begun. -/
structure Bld (M1 M : Mem) (p : Nat) (g : Geo) (fsA : AV) (bs : List Blk) (x : AV) : Prop where
  wf : M.WF
  nxt : M1.next ≤ M.next
  old : ∀ c, c < M1.next → c ≠ p → M.get c = M1.get c
  main : M.get p = some (.cells (newC g fsA x) true)
  sl : (bs = [] ∧ x = .val (.slice none 0 0)) ∨ ∃ bb, Grown 4 M x bs.length (bs.flatMap blkC) bb ∧ M1.next ≤ bb ∧ ∀ B ∈ bs, B.b ≠ bb
  dat : ∀ B ∈ bs, M.get B.b = some (.cells (bvs B.by') true) ∧ M1.next ≤ B.b
  nd : (bs.map (·.b)).Nodup

theorem Bld.keep {M1 M N : Mem} {p : Nat} {g : Geo} {fsA x : AV} {bs : List Blk} (h : Bld M1 M p g fsA bs x) (hk : Keep M N []) : Bld M1 N p g fsA bs x :=
  ⟨hk.wf, Nat.le_trans h.nxt hk.nxt, fun c hc hp => by rw [hk.old c (Nat.lt_of_lt_of_le hc h.nxt) (by simp)]; exact h.old c hc hp, hk.get h.wf h.main (by simp),
    h.sl.imp id fun ⟨bb, ⟨g1, g2, g3, g4⟩, h2⟩ => ⟨bb, ⟨g1, g2, g3, hk.get h.wf g4 (by simp)⟩, h2⟩, fun B hB => ⟨hk.get h.wf (h.dat B hB).1 (by simp), (h.dat B hB).2⟩, h.nd⟩

end Go.Proofs.YtgoehfelpekhcaaGreatDoor

/- The document's chip: New. -/
set_option maxRecDepth 100000
namespace Go.Proofs.YtgoehfelpekhcaaGreatDoor
open Go.AM

def pgsA (R : Nat) (bl : List Nat) : List AV := bl.map fun b => .sl b 0 R R none
/-- A document's chip on the way: so many pages. -/
structure BldD (M1 M : Mem) (p : Nat) (D : AV → Doc) (R : Nat) (bl : List Nat) (x : AV) : Prop where
  wf : M.WF
  nxt : M1.next ≤ M.next
  old : ∀ c, c < M1.next → c ≠ p → M.get c = M1.get c
  main : M.get p = some (.cells (docC (D x)) true)
  sl : (x = .val (.slice none 0 0) ∧ bl = []) ∨ ∃ bb, Grown 1 M x bl.length (pgsA R bl) bb ∧ M1.next ≤ bb ∧ ∀ b ∈ bl, b ≠ bb
  dat : ∀ b ∈ bl, M.get b = some (.cells (bvs (List.replicate R 255#8)) true) ∧ M1.next ≤ b

theorem BldD.keep {M1 M N : Mem} {p : Nat} {D : AV → Doc} {R : Nat} {x : AV} {bl : List Nat} (h : BldD M1 M p D R bl x) (hk : Keep M N []) : BldD M1 N p D R bl x :=
  ⟨hk.wf, Nat.le_trans h.nxt hk.nxt, fun c hc hp => by rw [hk.old c (Nat.lt_of_lt_of_le hc h.nxt) (by simp)]; exact h.old c hc hp, hk.get h.wf h.main (by simp),
    h.sl.imp id fun ⟨bb, ⟨g1, g2, g3, g4⟩, h2⟩ => ⟨bb, ⟨g1, g2, g3, hk.get h.wf g4 (by simp)⟩, h2⟩, fun B hB => ⟨hk.get h.wf (h.dat B hB).1 (by simp), (h.dat B hB).2⟩⟩

end Go.Proofs.YtgoehfelpekhcaaGreatDoor

/- The document's chip, without addresses; Erase. -/
set_option maxRecDepth 100000
namespace Go.Proofs.YtgoehfelpekhcaaGreatDoor
open Go.AM

/-- The document's chip, without addresses. -/
structure Vw where
  g : Geo
  fs : List Flt
  pg : List (List (BitVec 8))
  nx : List Int
  wr : List Int
  dn : List Int
  ops : Int
  cuts : Int
  off : Bool
  wait : Int
  cby : Int
  cf : BitVec 8
/-! ## Erase -/

end Go.Proofs.YtgoehfelpekhcaaGreatDoor

/- A chip without faults, powered: one block of it. -/
set_option maxRecDepth 100000
namespace Go.Proofs.YtgoehfelpekhcaaGreatDoor
open Go.AM

/-- What is known of a block of a chip that has no faults. -/
structure Ok (C : Chip) (g : Geo) (i : Nat) (l : List (BitVec 8)) (nx wr : Int) : Prop where
  g : C.g = g
  fs : C.fs = []
  off : C.off = false
  turn : C.turn = 0
  blk : ∃ B, C.bs[i]? = some B ∧ B.by' = l ∧ B.next = nx ∧ B.wear = wr

section
variable {C : Chip} {g : Geo} {i : Nat} {l : List (BitVec 8)} {nx wr : Int}

theorem Ok.bg (h : Ok C g i l nx wr) : bgn C = false ∧ bgC C = { C with ops := iAdd .i64 C.ops 1 } ∧ Ok (bgC C) g i l nx wr := by
  have h1 : bgn C = false := by unfold bgn; rw [h.turn]; rfl
  have h2 : bgC C = { C with ops := iAdd .i64 C.ops 1 } := by unfold bgC; rw [h1]; rfl
  refine ⟨h1, h2, ?_⟩
  rw [h2]
  exact ⟨h.g, h.fs, h.off, h.turn, h.blk⟩

theorem Ok.askd (h : Ok C g i l nx wr) {k : Int} : askd C i k = if isG g i k = true then 0 else 2 := by
  unfold Go.Proofs.YtgoehfelpekhcaaGreatDoor.askd
  rw [h.off, h.g]; rfl

theorem failsF_nil (b d : Int) : failsF [] b d = false := rfl

/-- A page is programmed. -/
theorem Ok.pg (h : Ok C g i l nx wr) {j : Nat} (hj : nx = (j : Int)) (hp : isG g i j = true) {d : List (BitVec 8)} (hd : d.length = rawN g) :
    (pgR C i j d).2 = 0 ∧ Ok (pgR C i j d).1 g i (over l (j * rawN g) d) (iAdd .i64 (j : Int) 1) wr := by
  obtain ⟨h1, h2, h3⟩ := h.bg
  obtain ⟨B, hB, hl, hn, hwr⟩ := h3.blk
  have hlt : i < (bgC C).bs.length := (List.getElem?_eq_some_iff.1 hB).1
  have e : pgR C i j d = ((bgC C).upB i { B with by' := over B.by' (j * rawN (bgC C).g) d, next := iAdd .i64 B.next 1, done := iAdd .i64 B.done 1 }, 0) := by
    unfold pgR
    rw [h.askd, if_pos hp, if_pos rfl, h.g, if_pos hd, h1]
    unfold pgS
    rw [Int.toNat_natCast, Int.toNat_natCast, hB]
    simp only [h3.fs, failsF_nil, hn, hj]
    simp
  rw [e]
  refine ⟨rfl, ⟨h3.g, h3.fs, h3.off, h3.turn, ⟨{ B with by' := over B.by' (j * rawN (bgC C).g) d, next := iAdd .i64 B.next 1, done := iAdd .i64 B.done 1 }, by
    show ((bgC C).bs.set i _)[i]? = _
    rw [List.getElem?_set_self hlt], ?_, ?_, hwr⟩⟩⟩
  · simp only [hl, h3.g]
  · simp only [hn, hj]

end

/-! ## Where a chip lies -/

structure Here (M : Mem) (p F G : Nat) (C : Chip) : Prop where
  at' : ChipAt M p C
  wf : M.WF
  rng : ∀ c ∈ foot p C, F ≤ c ∧ c < G
  nxt : G ≤ M.next

theorem Here.step {M N : Mem} {p F G : Nat} {C C' : Chip} (h : Here M p F G C) (s : Step M N p C C') : Here N p F G C' :=
  ⟨s.at', s.wf, by rw [s.foot]; exact h.rng, Nat.le_trans h.nxt s.keep.nxt⟩
theorem Here.keep {M N : Mem} {p F G : Nat} {C : Chip} (h : Here M p F G C) (k : Keep M N []) : Here N p F G C :=
  h.step (Step.of0 h.wf h.at' k)
theorem Here.notin {M : Mem} {p F G c : Nat} {C : Chip} (h : Here M p F G C) (hc : c < F ∨ G ≤ c) : c ∉ foot p C := fun hm => by
  have := h.rng c hm; omega
theorem Here.get {M N : Mem} {p F G c : Nat} {C C' : Chip} {r : Row} (h : Here M p F G C) (s : Step M N p C C') (hc : c < F ∨ G ≤ c) (hg : M.get c = some r) : N.get c = some r := step_get s h.wf hg (h.notin hc)
end Go.Proofs.YtgoehfelpekhcaaGreatDoor

/- A chip without faults, with a cut that may wait. -/
set_option maxRecDepth 100000
namespace Go.Proofs.YtgoehfelpekhcaaGreatDoor
open Go.AM

structure Sx (C : Chip) (g : Geo) (o t b : Nat) (f : BitVec 8) (c : Nat) : Prop where
  g : C.g = g
  fs : C.fs = []
  off : C.off = false
  turn : C.turn = (t : Int)
  ops : C.ops = (o : Int)
  by' : C.cby = (b : Int)
  cf : C.cf = f
  cuts : C.cuts = (c : Int)
structure Sf (C : Chip) (g : Geo) (o b : Nat) (f : BitVec 8) (c : Nat) : Prop where
  g : C.g = g
  fs : C.fs = []
  off : C.off = true
  ops : C.ops = (o : Int)
  by' : C.cby = (b : Int)
  cf : C.cf = f
  cuts : C.cuts = (c : Int)
def BlkIs (C : Chip) (i : Nat) (l : List (BitVec 8)) (nx wr : Int) : Prop := ∃ B, C.bs[i]? = some B ∧ B.by' = l ∧ B.next = nx ∧ B.wear = wr

section
variable {C : Chip} {g : Geo} {o t b c : Nat} {f : BitVec 8}

theorem inc1 {o : Nat} (h : o ≤ 1000000) : iAdd .i64 (o : Int) 1 = ((o + 1 : Nat) : Int) := iInc (by omega)

theorem Sx.bgn_eq (h : Sx C g o t b f c) (ho : o ≤ 1000000) : bgn C = (decide (t ≠ 0) && decide (o + 1 = t)) := by
  unfold bgn
  rw [h.turn, h.ops, inc1 ho]
  have h1 : (((t : Nat) : Int) == 0) = decide (t = 0) := by
    rw [Bool.eq_iff_iff, beq_iff_eq, decide_eq_true_eq]; omega
  have h2 : (((o + 1 : Nat) : Int) != (t : Int)) = decide (o + 1 ≠ t) := by
    rw [Bool.eq_iff_iff, bne_iff_ne, decide_eq_true_eq]; omega
  rw [h1, h2]
  simp

/-- An operation that is not the cut's. -/
theorem Sx.go (h : Sx C g o t b f c) (ho : o ≤ 1000000) (hn : t = 0 ∨ o + 1 ≠ t) : bgn C = false ∧ Sx (bgC C) g (o + 1) t b f c ∧ (bgC C).bs = C.bs := by
  have h1 : bgn C = false := by
    rw [h.bgn_eq ho]
    rcases hn with h | h
    · simp [h]
    · simp [h]
  have h2 : bgC C = { C with ops := ((o + 1 : Nat) : Int) } := by
    unfold bgC; rw [h1, h.ops, inc1 ho]; rfl
  rw [h2]
  exact ⟨h1, ⟨h.g, h.fs, h.off, h.turn, rfl, h.by', h.cf, h.cuts⟩, rfl⟩

/-- The cut's. -/
theorem Sx.cut (h : Sx C g o t b f c) (ho : o ≤ 1000000) (hc : c ≤ 1000000) (hn : t = o + 1) : bgn C = true ∧ Sf (bgC C) g (o + 1) b f (c + 1) ∧ (bgC C).bs = C.bs := by
  have h1 : bgn C = true := by
    rw [h.bgn_eq ho, hn]; simp
  have h2 : bgC C = { C with ops := ((o + 1 : Nat) : Int), turn := 0, off := true, cuts := ((c + 1 : Nat) : Int) } := by
    unfold bgC; rw [if_pos h1, h.ops, inc1 ho, h.cuts, inc1 hc]
  rw [h2]
  exact ⟨h1, ⟨h.g, h.fs, rfl, rfl, h.by', h.cf, rfl⟩, rfl⟩

theorem Sx.askd (h : Sx C g o t b f c) {i : Int} {k : Int} : Go.Proofs.YtgoehfelpekhcaaGreatDoor.askd C i k = if isG g i k = true then 0 else 2 := by
  unfold Go.Proofs.YtgoehfelpekhcaaGreatDoor.askd
  rw [h.off, h.g]; rfl
theorem Sf.askd (h : Sf C g o b f c) {i : Int} {k : Int} : Go.Proofs.YtgoehfelpekhcaaGreatDoor.askd C i k = 9 := by
  unfold Go.Proofs.YtgoehfelpekhcaaGreatDoor.askd
  rw [h.off]; rfl

theorem blk_other {C : Chip} {i k : Nat} (hk : k ≠ i) (B : Blk) {l : List (BitVec 8)} {nx wr : Int} (h : BlkIs C k l nx wr) : BlkIs (C.upB i B) k l nx wr := by
  obtain ⟨B', h1, h2⟩ := h
  refine ⟨B', ?_, h2⟩
  show (C.bs.set i B)[k]? = _
  rw [List.getElem?_set_ne (fun e => hk e.symm)]; exact h1
end

end Go.Proofs.YtgoehfelpekhcaaGreatDoor

/- The chip and the document's: alike. -/
set_option maxRecDepth 100000
namespace Go.Proofs.YtgoehfelpekhcaaGreatDoor
open Go.AM

/-- Both stand the same; at most so many operations. -/
structure Alike (n : Nat) (C : Chip) (V : Vw) : Prop where
  g : V.g = C.g
  fs : V.fs = C.fs
  ap : Apart C.fs
  off : V.off = C.off
  ops : V.ops = C.ops
  cuts : V.cuts = C.cuts
  o0 : 0 ≤ C.ops
  o1 : C.ops ≤ (n : Int)
  nx : V.nx = C.bs.map (·.next)
  wr : V.wr = C.bs.map (·.wear)
  dn : V.dn = C.bs.map (·.done)
  len : C.bs.length = C.g.bl.toNat
  pgl : V.pg.length = C.g.bl.toNat * C.g.pg.toNat
  ful : ∀ B ∈ C.bs, B.by'.length = C.g.pg.toNat * rawN C.g
  pg : ∀ (i j : Nat) (h : i < C.bs.length), j < C.g.pg.toNat → V.pg[i * C.g.pg.toNat + j]? = some (pageB C.bs[i] (rawN C.g) j)
  cut : (C.turn = 0 ∧ V.wait = 0) ∨ (1 ≤ V.wait ∧ V.wait ≤ 1073741824 ∧ C.turn = C.ops + V.wait ∧ V.cby = C.cby ∧ V.cf = C.cf)
  may : mayG C.g = true
  cby0 : 0 ≤ C.cby

theorem Alike.mono {n m : Nat} {C : Chip} {V : Vw} (h : Alike n C V) (hm : n ≤ m) : Alike m C V :=
  ⟨h.g, h.fs, h.ap, h.off, h.ops, h.cuts, h.o0, by have := h.o1; omega, h.nx, h.wr, h.dn, h.len, h.pgl, h.ful, h.pg, h.cut, h.may, h.cby0⟩

/-! ## Pages -/

/-! ## Operations -/

end Go.Proofs.YtgoehfelpekhcaaGreatDoor

/- What is lent, what is kept, what is written over. -/
set_option maxRecDepth 100000
namespace Go.Proofs.YtgoehfelpekhcaaGreatDoor
open Go.AM

/-- The block that a slice lies in. -/
def onBlk (x : AV) (b : Nat) : Prop := match x with
  | .sl c _ _ _ _ => c = b
  | _ => False

/-- But for a slice's block all that was there stays. -/
structure Over (M N : Mem) (x : AV) : Prop where
  wf : N.WF
  nxt : M.next ≤ N.next
  old : ∀ c, c < M.next → ¬ onBlk x c → N.get c = M.get c

theorem Over.keep {M N : Mem} {x y : AV} {l : List (BitVec 8)} (h : Over M N x) (hw : M.WF) (hy : BytesAt M y l) (hd : ∀ c, inBlk y c → ¬ onBlk x c) : BytesAt N y l :=
  SlAt.mono hy fun c r hin hc => by rw [h.old c (hw c r hc) (hd c hin)]; exact hc

end Go.Proofs.YtgoehfelpekhcaaGreatDoor

/- A chip with one fault that comes later: blocks that it has not, and the one that it has. -/
set_option maxRecDepth 100000
namespace Go.Proofs.YtgoehfelpekhcaaGreatDoor
open Go.AM

/-- Powered, no cut waits, one fault on block i. -/
structure Fx (C : Chip) (g : Geo) (i a : Nat) : Prop where
  g : C.g = g
  fs : C.fs = [⟨(i : Int), false, (a : Int)⟩]
  off : C.off = false
  turn : C.turn = 0
section
variable {C : Chip} {g : Geo} {i a : Nat} {l : List (BitVec 8)} {nx wr : Int} {dn : Nat}

theorem Fx.bg (h : Fx C g i a) : bgn C = false ∧ Fx (bgC C) g i a ∧ (bgC C).bs = C.bs := by
  have h1 : bgn C = false := by unfold bgn; rw [h.turn]; rfl
  have h2 : bgC C = { C with ops := iAdd .i64 C.ops 1 } := by unfold bgC; rw [h1]; rfl
  rw [h2]
  exact ⟨h1, ⟨h.g, h.fs, h.off, h.turn⟩, rfl⟩

theorem Fx.askd (h : Fx C g i a) {b k : Int} : Go.Proofs.YtgoehfelpekhcaaGreatDoor.askd C b k = if isG g b k = true then 0 else 2 := by
  unfold Go.Proofs.YtgoehfelpekhcaaGreatDoor.askd
  rw [h.off, h.g]; rfl

end

end Go.Proofs.YtgoehfelpekhcaaGreatDoor

/- Acts; what acts on other blocks leave. -/
set_option maxRecDepth 100000
namespace Go.Proofs.YtgoehfelpekhcaaGreatDoor
open Go.AM
open Go.ChangeShapes Go.WideShapes Go.RowKit

structure Act where
  do' : Int
  b : Int
  k : Int
  n : BitVec 8
  len : Int
  op : Int
  by' : Int
  f : BitVec 8
/-- A block that others leave alone. -/
structure Wx (C : Chip) (g : Geo) (i : Nat) (l : List (BitVec 8)) (nx wr : Int) (o : Nat) : Prop where
  g : C.g = g
  fs : C.fs = []
  blk : BlkIs C i l nx wr
  o0 : 0 ≤ C.ops
  o1 : C.ops ≤ (o : Int)

section
variable {C : Chip} {g : Geo} {i : Nat} {l : List (BitVec 8)} {nx wr : Int} {o : Nat}

theorem Wx.mono {o' : Nat} (h : Wx C g i l nx wr o) (ho : o ≤ o') : Wx C g i l nx wr o' := ⟨h.g, h.fs, h.blk, h.o0, by have := h.o1; omega⟩
theorem Wx.bg (h : Wx C g i l nx wr o) (ho : o ≤ 1000000) : Wx (bgC C) g i l nx wr (o + 1) ∧ (bgC C).bs = C.bs := by
  have h0 := h.o0
  have h1 := h.o1
  have e : iAdd .i64 C.ops 1 = C.ops + 1 := by rw [iAdd, wrap_i64' (by omega) (by omega)]
  unfold bgC
  split
  · exact ⟨⟨h.g, h.fs, h.blk, by show 0 ≤ iAdd .i64 C.ops 1; rw [e]; omega, by show iAdd .i64 C.ops 1 ≤ _; rw [e]; omega⟩, rfl⟩
  · exact ⟨⟨h.g, h.fs, h.blk, by show 0 ≤ iAdd .i64 C.ops 1; rw [e]; omega, by show iAdd .i64 C.ops 1 ≤ _; rw [e]; omega⟩, rfl⟩
theorem Wx.up (h : Wx C g i l nx wr o) {k : Nat} (hk : i ≠ k) (B : Blk) : Wx (C.upB k B) g i l nx wr o := ⟨h.g, h.fs, blk_other hk B h.blk, h.o0, h.o1⟩

theorem askd_nn {C : Chip} {b k : Int} (h : askd C b k = 0) : 0 ≤ b := (isG_iff.1 (askd_zero h).2).1.1

theorem Wx.pg (h : Wx C g i l nx wr o) (ho : o ≤ 1000000) {b : Int} (hb : b ≠ (i : Int)) (k : Int) (d : List (BitVec 8)) : Wx (pgR C b k d).1 g i l nx wr (o + 1) := by
  obtain ⟨h1, _⟩ := h.bg ho
  unfold pgR
  split
  · rename_i ha
    have hn := askd_nn ha
    have hbi : i ≠ b.toNat := by omega
    split
    · unfold pgS
      split
      · exact h1
      · split
        · exact h1
        · split
          · exact h1
          · split
            · exact h1.up hbi _
            · exact h1.up hbi _
    · exact h.mono (by omega)
  · exact h.mono (by omega)

end

end Go.Proofs.YtgoehfelpekhcaaGreatDoor

/- The chip and the document's, side by side; an act of both. -/
set_option maxRecDepth 100000
namespace Go.Proofs.YtgoehfelpekhcaaGreatDoor
open Go.AM

/-- A chip, the document's chip, and what a law keeps beside them: 'F' where the chip begins, 'B' where the document's does, 'X' the law's own blocks behind that. -/
structure Both (M : Mem) (p : Nat) (C : Chip) (r : Nat) (S : DocS) (F B : Nat) (X : List Nat) : Prop where
  c : ChipAt M p C
  d : DocAt M r S
  wf : M.WF
  fb : F ≤ B
  nxt : B ≤ M.next
  cr : ∀ c ∈ foot p C, F ≤ c ∧ c < B
  cs : ∀ c, inBlk C.fsA c → F ≤ c ∧ c < B
  dr : ∀ c ∈ own r S, B ≤ c ∧ c ∉ X
  ds : ∀ c, inBlk S.d.fsA c → B ≤ c ∧ c ∉ X
  dp : ∀ q ∈ S.pg, ∀ c, inBlk q.1 c → B ≤ c ∧ c ∉ X
  xr : ∀ x ∈ X, B ≤ x ∧ x < M.next

/-- What a law keeps stays. -/
def Fr (M N : Mem) (F : Nat) (X : List Nat) : Prop := ∀ c row, (c < F ∨ c ∈ X) → M.get c = some row → N.get c = some row
theorem Fr.mono {M N : Mem} {F : Nat} {X Y : List Nat} (h : Fr M N F X) (hy : ∀ c ∈ Y, c ∈ X) : Fr M N F Y := fun c r hc hg => h c r (hc.imp id (hy c)) hg
theorem Fr.keep {M N : Mem} {F : Nat} {X : List Nat} (hw : M.WF) (k : Keep M N []) : Fr M N F X := fun c r _ hg => k.get hw hg (by simp)

section
variable {M N : Mem} {p : Nat} {C C' : Chip} {r : Nat} {S S' : DocS} {F B : Nat} {X : List Nat}

theorem Both.keep (h : Both M p C r S F B X) (k : Keep M N []) : Both N p C r S F B X :=
  ⟨h.c.keep h.wf k, h.d.keep h.wf k, k.wf, h.fb, Nat.le_trans h.nxt k.nxt, h.cr, h.cs, h.dr, h.ds, h.dp, fun x hx => ⟨(h.xr x hx).1, Nat.lt_of_lt_of_le (h.xr x hx).2 k.nxt⟩⟩

theorem Both.drop {Y : List Nat} (h : Both M p C r S F B X) (hy : ∀ c ∈ Y, c ∈ X) : Both M p C r S F B Y :=
  ⟨h.c, h.d, h.wf, h.fb, h.nxt, h.cr, h.cs, fun c hc => ⟨(h.dr c hc).1, fun hm => (h.dr c hc).2 (hy c hm)⟩, fun c hc => ⟨(h.ds c hc).1, fun hm => (h.ds c hc).2 (hy c hm)⟩, fun q hq c hc => ⟨(h.dp q hq c hc).1, fun hm => (h.dp q hq c hc).2 (hy c hm)⟩, fun x hx => h.xr x (hy x hx)⟩

end

end Go.Proofs.YtgoehfelpekhcaaGreatDoor

/- A page as it is looked at: by leaf, and by the document. -/
set_option maxRecDepth 100000
namespace Go.Proofs.YtgoehfelpekhcaaGreatDoor
open Go.AM

/-- A new block written once more. -/
theorem keep_put_new {M N : Mem} (k : Keep M N []) {b : Nat} (h1 : M.next ≤ b) (h2 : b < N.next) (row : Row) : Keep M (N.put b row) [] :=
  ⟨k.wf.put h2 _, k.nxt, fun c hc _ => by rw [Mem.get_put, if_neg (by omega)]; exact k.old c hc (by simp)⟩
end Go.Proofs.YtgoehfelpekhcaaGreatDoor

/- Places, one behind the other; leaf goes over a chip. -/
set_option maxRecDepth 100000
namespace Go.Proofs.YtgoehfelpekhcaaGreatDoor
open Go.AM

theorem c_numberV (M : Mem) (hw : M.WF) (g : Geo) (h : mayG g = true) (b p : Int) (hi : isG g b p = true) : CallA tb.P 72 [geoA g, placeA b p] M fun y N => y = i64 (b * g.pg + p) ∧ Keep M N [] := by
  refine F72_ok ?_
  unfold F72
  refine ⟨_, _, _, _, _, rfl, _, _, rfl, ?_⟩
  simp only [letP_eq]
  have hg := get_new M (.cells (geoC g) true)
  have hK := Keep.new hw (.cells (geoC g) true)
  have hK2 := Keep.new hK.wf (.cells [i64 b, i64 p] true)
  have hg2 := hK2.get hK.wf hg (by simp)
  have hp2 := get_new (M.new (.cells (geoC g) true)) (.cells [i64 b, i64 p] true)
  obtain ⟨l0, l1, l2, l3, l4, l5⟩ := geo_ld hg2
  refine bindO_i (eLd_some l5) ?_
  refine ⟨_, _, _, _, _, rfl, ?_⟩
  refine (c_may102 _ hK2.wf g).mono ?_
  rintro y N ⟨rfl, hk⟩
  simp only [zB_bool, h]
  refine condB_i (fun h => by simp at h) (fun _ => ?_)
  have hgN := hk.get hK2.wf hg2 (by simp)
  have hpN := hk.get hK2.wf hp2 (by simp)
  obtain ⟨_, _, _, _, _, k5⟩ := geo_ld hgN
  obtain ⟨_, _, p2⟩ := place_ld hpN
  refine bindO_i (eLd_some k5) ?_
  refine ⟨_, _, _, _, _, rfl, ?_⟩
  refine bindO_i (eLd_some p2) ?_
  refine ⟨_, _, rfl, ?_⟩
  refine (c_is _ hk.wf g h b p).mono ?_
  rintro y N' ⟨rfl, hk'⟩
  simp only [zB_bool]
  have hall := hK.trans0 (hK2.trans0 (hk.trans0 hk'))
  refine condB_i (fun hi' => by rw [hi] at hi'; cases hi') (fun _ => ?_)
  obtain ⟨_, k1, _⟩ := geo_ld (hk'.get hk.wf hgN (by simp))
  obtain ⟨p0, p1, _⟩ := place_ld (hk'.get hk.wf hpN (by simp))
  refine bindO_i (eLd_some p0) ?_
  simp only [i64, zI_int]
  refine bindO_i (eLd_some k1) ?_
  simp only [i64, zI_int]
  refine bindO_i (eLd_some p1) ?_
  simp only [i64, zI_int]
  have hm := mayG_iff.1 h
  have hi2 := isG_iff.1 hi
  have hb := mul_bnd (a := b) (b := g.pg) (by omega) (by omega) (by omega) (by omega)
  have hn : 0 ≤ b * g.pg := Int.mul_nonneg (by omega) (by omega)
  rw [iMul, wrap_i64' (n := b * g.pg) (by omega) (by omega), iAdd, wrap_i64' (by omega) (by omega)]
  exact ⟨by trivial, hall⟩

theorem quo_some {xo yo : Operand} {a b : Nat} {M : Mem} (hb : b ≠ 0) (ha : a < 4611686018427387904) : eBin tb .quo 3 xo yo (.val (.int .i64 (a : Int))) (.val (.int .i64 (b : Int))) M = some (.val (.int .i64 ((a / b : Nat) : Int)), M) := by
  refine eBin_some ?_
  have hnn : (b : Int) ≠ 0 := by omega
  have hlt : a / b ≤ a := Nat.div_le_self a b
  rw [evBin_int (by simp) (by simp)]
  simp only [intBin, hnn, decide_false, cond_false, Option.map_some]
  have e : ((a : Int).tdiv (b : Int)) = ((a / b : Nat) : Int) := by rw [Int.tdiv_eq_ediv_of_nonneg (by omega)]; exact (Int.natCast_ediv a b).symm
  rw [e]
  generalize a / b = q at hlt
  rw [wrap_i64' (by omega) (by omega)]
theorem rem_some {xo yo : Operand} {a b : Nat} {M : Mem} (hb : b ≠ 0) : eBin tb .rem 3 xo yo (.val (.int .i64 (a : Int))) (.val (.int .i64 (b : Int))) M = some (.val (.int .i64 ((a % b : Nat) : Int)), M) := by
  refine eBin_some ?_
  have hnn : (b : Int) ≠ 0 := by omega
  rw [evBin_int (by simp) (by simp)]
  simp only [intBin, hnn, decide_false, cond_false, Option.map_some]
  have e : ((a : Int).tmod (b : Int)) = ((a % b : Nat) : Int) := by rw [Int.tmod_eq_emod_of_nonneg (by omega)]; exact (Int.natCast_emod a b).symm
  rw [e]

/-- How many pages there are. -/
def nP (g : Geo) : Nat := g.bl.toNat * g.pg.toNat
def plB (g : Geo) (i : Nat) : Nat := i / g.pg.toNat
def plK (g : Geo) (i : Nat) : Nat := i % g.pg.toNat
theorem nP_bnd {g : Geo} (h : mayG g = true) : 1 ≤ nP g ∧ nP g ≤ 160 ∧ g.bl = (g.bl.toNat : Int) ∧ g.pg = (g.pg.toNat : Int) ∧ 4 ≤ g.pg.toNat ∧ g.pg.toNat ≤ 8 ∧ 8 ≤ g.bl.toNat ∧ g.bl.toNat ≤ 20 := by
  have hm := mayG_iff.1 h
  have h1 : g.bl.toNat * g.pg.toNat ≤ 20 * 8 := Nat.mul_le_mul (by omega) (by omega)
  have h2 : 8 * 4 ≤ g.bl.toNat * g.pg.toNat := Nat.mul_le_mul (by omega) (by omega)
  unfold nP
  omega
theorem pl_is {g : Geo} (h : mayG g = true) {i : Nat} (hi : i < nP g) : isG g (plB g i) (plK g i) = true ∧ plB g i < g.bl.toNat ∧ plK g i < g.pg.toNat ∧ plB g i * g.pg.toNat + plK g i = i := by
  obtain ⟨_, _, h1, h2, h3, _, _, _⟩ := nP_bnd h
  have hk : plK g i < g.pg.toNat := Nat.mod_lt _ (by omega)
  have hb : plB g i < g.bl.toNat := by
    unfold plB
    rw [Nat.div_lt_iff_lt_mul (by omega)]
    exact hi
  have he : plB g i * g.pg.toNat + plK g i = i := by unfold plB plK; exact Nat.div_add_mod' i g.pg.toNat
  refine ⟨isG_iff.2 ⟨⟨by omega, by omega⟩, by omega, by omega⟩, hb, hk, he⟩

theorem place_stE {M : Mem} {b : Nat} {cs : List AV} (x y : Int) (hg : M.get b = some (.cells cs true)) (hl : cs.length = 2) : eSt tb 88 (.ptr b 0) (placeA x y) M = some (undefA, M.put b (.cells [i64 x, i64 y] true)) :=
  eSt_some (st_all ty88 rfl hg hl (by intro v hv; simp only [List.mem_cons, List.not_mem_nil, or_false] at hv; rcases hv with rfl | rfl <;> rfl))
theorem place_res {M : Mem} {b : Nat} {x y : Int} {z : AV} (hg : M.get b = some (.cells [i64 x, i64 y] true)) : eRes tb [.c 88 (.ptr b 0), .v z] M = some (.tup [placeA x y, z]) := by
  have l := (place_ld hg).2.2
  unfold eRes resC resC resC
  simp only [l, Option.map_some]

/-- The place behind the i-th one. -/
theorem c_next (M : Mem) (hw : M.WF) (g : Geo) (h : mayG g = true) (i : Nat) (hi : i < nP g) :
    CallA tb.P 40 [geoA g, placeA (plB g i) (plK g i)] M fun y N => Keep M N [] ∧ ((i + 1 < nP g ∧ y = .tup [placeA (plB g (i + 1)) (plK g (i + 1)), .val (.bool true)]) ∨ (i + 1 = nP g ∧ y = .tup [placeA 0 0, .val (.bool false)])) := by
  obtain ⟨hn1, hn2, h1, h2, h3, _, _, _⟩ := nP_bnd h
  obtain ⟨hp, _, _, he⟩ := pl_is h hi
  refine F40_ok ?_
  unfold F40
  refine ⟨_, _, _, _, _, rfl, _, _, rfl, ?_⟩
  refine letP_i fun M8 hM8 => ?_
  have hM8' : M8 = M.new (.cells (geoC g) true) := hM8
  have hk8 : Keep M M8 [] := by rw [hM8']; exact Keep.new hw _
  have hg8 : M8.get M.next = some (.cells (geoC g) true) := by rw [hM8']; exact get_new _ _
  clear hM8 hM8'
  refine letP_i fun M9 hM9 => ?_
  have hM9' : M9 = M8.new (.cells [i64 (plB g i : Int), i64 (plK g i : Int)] true) := hM9
  have hk9 : Keep M8 M9 [] := by rw [hM9']; exact Keep.new hk8.wf _
  have hp9 : M9.get M8.next = some (.cells [i64 (plB g i : Int), i64 (plK g i : Int)] true) := by rw [hM9']; exact get_new _ _
  clear hM9 hM9'
  refine letP_i fun M10 hM10 => ?_
  have hM10' : M10 = M9.new (.cells [i64 0, i64 0] true) := hM10
  have hk10 : Keep M9 M10 [] := by rw [hM10']; exact Keep.new hk9.wf _
  have hr10 : M10.get M9.next = some (.cells [i64 0, i64 0] true) := by rw [hM10']; exact get_new _ _
  clear hM10 hM10'
  have hK := hk8.trans0 (hk9.trans0 hk10)
  have hg10 := (hk9.trans0 hk10).get hk8.wf hg8 (by simp)
  have hp10 := hk10.get hk9.wf hp9 (by simp)
  obtain ⟨_, _, _, _, _, l5⟩ := geo_ld hg10
  refine bindO_i (eLd_some l5) ?_
  refine ⟨_, _, _, _, _, rfl, ?_⟩
  refine bindO_i (eLd_some (place_ld hp10).2.2) ?_
  refine ⟨_, _, rfl, ?_⟩
  refine (c_numberV M10 hK.wf g h _ _ hp).mono ?_
  rintro y M21 ⟨rfl, hk21⟩
  have hnum : (plB g i : Int) * g.pg + (plK g i : Int) = (i : Int) := by
    rw [h2, ← Int.natCast_mul, ← Int.natCast_add, he]
  rw [hnum]
  simp only [i64, zI_int]
  have hM9 : M.next ≤ M9.next := (hk8.trans0 hk9).nxt
  have hres : ∀ (N : Mem) (x y : Int) (z : AV), Keep M10 N [] → ∃ N', eSt tb 88 (.ptr M9.next 0) (placeA x y) N = some (undefA, N') ∧ eRes tb [.c 88 (.ptr M9.next 0), .v z] N' = some (.tup [placeA x y, z]) ∧ Keep M N' [] := by
    intro N x y z hk
    have hrN := hk.get hK.wf hr10 (by simp)
    exact ⟨_, place_stE x y hrN rfl, place_res (by rw [Mem.get_put, if_pos rfl]), keep_put_new (hK.trans0 hk) hM9 (hk.wf _ _ hrN) _⟩
  refine letP_i fun K38 hK38 => ?_
  have stop : ∀ N, Keep M10 N [] → i + 1 = nP g → K38 true N := by
    intro N hk hn
    rw [hK38]
    simp only [condB_true]
    obtain ⟨N', e1, e2, e3⟩ := hres N 0 0 (.val (.bool false)) hk
    refine bindO_i e1 ?_
    refine bindO_i e2 ?_
    exact ⟨e3, .inr ⟨hn, rfl⟩⟩
  have go : ∀ N, Keep M10 N [] → i + 1 < nP g → K38 false N := by
    intro N hk hn
    rw [hK38]
    simp only [condB_false]
    have hgN := hk.get hK.wf hg10 (by simp)
    have l1 : eLd tb 3 (.ptr M.next 1) N = some (.val (.int .i64 (g.pg.toNat : Int)), N) := by rw [← h2]; exact eLd_some (geo_ld hgN).2.1
    rw [iInc (by omega)]
    simp only [l1, bindO_some, zI_int]
    refine bindO_i (quo_some (by omega) (by omega)) ?_
    simp only [zI_int]
    refine bindO_i (rem_some (by omega)) ?_
    simp only [zI_int]
    obtain ⟨N', e1, e2, e3⟩ := hres N (plB g (i + 1)) (plK g (i + 1)) (.val (.bool true)) hk
    refine bindO_i e1 ?_
    refine bindO_i e2 ?_
    exact ⟨e3, .inl ⟨hn, rfl⟩⟩
  clear hK38
  have hg21 := hk21.get hK.wf hg10 (by simp)
  obtain ⟨_, _, _, _, _, m5⟩ := geo_ld hg21
  refine bindO_i (eLd_some m5) ?_
  refine ⟨_, _, _, _, _, rfl, ?_⟩
  refine (c_may102 M21 hk21.wf g).mono ?_
  rintro y M30 ⟨rfl, hk30⟩
  have hk30' := hk21.trans0 hk30
  rw [h]
  simp only [zB_bool, Bool.not_true, condB_false]
  rw [iInc (by omega)]
  refine condB_i (fun hz => ?_) (fun _ => ?_)
  · exfalso
    have : ((i + 1 : Nat) : Int) = 0 := by simpa using hz
    omega
  have hg30 := hk30'.get hK.wf hg10 (by simp)
  have n0 : eLd tb 3 (.ptr M.next 0) M30 = some (.val (.int .i64 g.bl), M30) := eLd_some (geo_ld hg30).1
  have n1 : eLd tb 3 (.ptr M.next 1) M30 = some (.val (.int .i64 g.pg), M30) := eLd_some (geo_ld hg30).2.1
  simp only [n0, n1, bindO_some, zI_int]
  have hmul : iMul .i64 g.bl g.pg = ((nP g : Nat) : Int) := by
    have : ((nP g : Nat) : Int) = g.bl * g.pg := by unfold nP; rw [Int.natCast_mul, ← h1, ← h2]
    rw [iMul, ← this, wrap_i64' (by omega) (by omega)]
  rw [hmul]
  by_cases hn : i + 1 = nP g
  · rw [show (((i + 1 : Nat) : Int) == ((nP g : Nat) : Int)) = true by rw [hn]; exact beq_self_eq_true _]
    exact stop M30 hk30' hn
  · rw [show (((i + 1 : Nat) : Int) == ((nP g : Nat) : Int)) = false by rw [beq_eq_false_iff_ne]; omega]
    exact go M30 hk30' (by omega)

/-! ## Over a chip -/

end Go.Proofs.YtgoehfelpekhcaaGreatDoor

/- Oracles of the seat: what contracts tell to the row; slices.Sorted(maps.Keys(m)) by the library. -/
set_option maxRecDepth 100000
namespace Go.Proofs.YtgoehfelpekhcaaGreatDoor
open Go.AM
open Go.RowKit Go.Maps Go.Sort Go.Shelf Go.Proofs Go.WideElems

def Tryz.keysA78_ren : Go.Shelf.Ren := ⟨fun | 7 => 78 | 10 => 145 | n => n, fun | 23 => 155 | 26 => 3 | 3 => 102 | 28 => 159 | 0 => 0 | 27 => 158 | 33 => 42 | 4 => 4 | n => n, fun | n => n⟩
def Tryz.keysA94_ren : Go.Shelf.Ren := ⟨fun | 7 => 94 | 10 => 158 | n => n, fun | 23 => 83 | 26 => 3 | 3 => 91 | 28 => 159 | 0 => 0 | 27 => 158 | 33 => 42 | 4 => 4 | n => n, fun | n => n⟩
def Tryz.keysA166_ren : Go.Shelf.Ren := ⟨fun | 7 => 166 | 10 => 232 | n => n, fun | 23 => 242 | 26 => 3 | 3 => 3 | 28 => 159 | 0 => 0 | 27 => 158 | 33 => 42 | 4 => 4 | n => n, fun | n => n⟩
def Tryz.sortedA_ren : Go.Shelf.Ren := ⟨fun | 6 => 77 | 8 => 143 | 9 => 144 | 11 => 207 | 13 => 147 | 12 => 208 | 23 => 217 | 24 => 218 | 14 => 260 | 15 => 261 | 16 => 262 | 17 => 263 | 18 => 264 | 19 => 265 | 20 => 266 | 21 => 267 | 22 => 268 | 25 => 313 | 26 => 270 | 27 => 271 | 28 => 314 | 29 => 315 | 30 => 148 | 31 => 335 | n => n, fun | 26 => 3 | 28 => 159 | 24 => 105 | 0 => 0 | 3 => 3 | 37 => 80 | 48 => 263 | 50 => 237 | 4 => 4 | 40 => 278 | 39 => 277 | 45 => 282 | 5 => 5 | 9 => 9 | 51 => 318 | 55 => 322 | 57 => 359 | 58 => 360 | 33 => 42 | n => n, fun | n => n⟩
def Tryz.sortA_ren : Go.Shelf.Ren := ⟨fun | 5 => 144 | 8 => 147 | 7 => 208 | 19 => 217 | 20 => 218 | 10 => 260 | 11 => 261 | 12 => 262 | 13 => 263 | 14 => 264 | 15 => 265 | 16 => 266 | 17 => 267 | 18 => 268 | 30 => 313 | 31 => 270 | 32 => 271 | 33 => 314 | 34 => 315 | 35 => 148 | 40 => 335 | n => n, fun | 23 => 105 | 25 => 3 | 3 => 3 | 32 => 80 | 22 => 105 | 0 => 0 | 44 => 263 | 46 => 237 | 4 => 4 | 36 => 278 | 35 => 277 | 41 => 282 | 5 => 5 | 9 => 9 | 53 => 318 | 57 => 322 | 63 => 359 | 64 => 360 | n => n, fun | n => n⟩
theorem Tryz.keysA78 : SlLaysZI.n7 Tryz.prog Tryz.keysA78_ren := {
  mixed := by kernel_rfl
  f7 := ⟨Tryz.f78.name, by decide, Tryz.func78.trans (congrArg some (by kernel_rfl))⟩
  f10 := ⟨Tryz.f145.name, by decide, Tryz.func145.trans (congrArg some (by kernel_rfl))⟩
  t0 := Tryz.underlying0
  a0 := Tryz.isAgg0
  z0 := Tryz.sizeOf0
  v0 := Tryz.zeroValue0
  t4 := Tryz.underlying4
  a4 := Tryz.isAgg4
  z4 := Tryz.sizeOf4
  v4 := Tryz.zeroValue4
  t23 := Tryz.underlying155
  a23 := Tryz.isAgg155
  z23 := Tryz.sizeOf155
  v23 := Tryz.zeroValue155
  t26 := Tryz.underlying3
  a26 := Tryz.isAgg3
  z26 := Tryz.sizeOf3
  v26 := Tryz.zeroValue3
  t27 := Tryz.underlying158
  a27 := Tryz.isAgg158
  z27 := Tryz.sizeOf158
  v27 := Tryz.zeroValue158
  t28 := Tryz.underlying159
  a28 := Tryz.isAgg159
  z28 := Tryz.sizeOf159
  v28 := Tryz.zeroValue159
  t33 := Tryz.underlying42
  a33 := Tryz.isAgg42
  z33 := Tryz.sizeOf42
  v33 := Tryz.zeroValue42 }
theorem Tryz.keysA94 : SlLaysZI.n7 Tryz.prog Tryz.keysA94_ren := {
  mixed := by kernel_rfl
  f7 := ⟨Tryz.f94.name, by decide, Tryz.func94.trans (congrArg some (by kernel_rfl))⟩
  f10 := ⟨Tryz.f158.name, by decide, Tryz.func158.trans (congrArg some (by kernel_rfl))⟩
  t0 := Tryz.underlying0
  a0 := Tryz.isAgg0
  z0 := Tryz.sizeOf0
  v0 := Tryz.zeroValue0
  t4 := Tryz.underlying4
  a4 := Tryz.isAgg4
  z4 := Tryz.sizeOf4
  v4 := Tryz.zeroValue4
  t23 := Tryz.underlying83
  a23 := Tryz.isAgg83
  z23 := Tryz.sizeOf83
  v23 := Tryz.zeroValue83
  t26 := Tryz.underlying3
  a26 := Tryz.isAgg3
  z26 := Tryz.sizeOf3
  v26 := Tryz.zeroValue3
  t27 := Tryz.underlying158
  a27 := Tryz.isAgg158
  z27 := Tryz.sizeOf158
  v27 := Tryz.zeroValue158
  t28 := Tryz.underlying159
  a28 := Tryz.isAgg159
  z28 := Tryz.sizeOf159
  v28 := Tryz.zeroValue159
  t33 := Tryz.underlying42
  a33 := Tryz.isAgg42
  z33 := Tryz.sizeOf42
  v33 := Tryz.zeroValue42 }
theorem Tryz.keysA166 : SlLaysZI.n7 Tryz.prog Tryz.keysA166_ren := {
  mixed := by kernel_rfl
  f7 := ⟨Tryz.f166.name, by decide, Tryz.func166.trans (congrArg some (by kernel_rfl))⟩
  f10 := ⟨Tryz.f232.name, by decide, Tryz.func232.trans (congrArg some (by kernel_rfl))⟩
  t0 := Tryz.underlying0
  a0 := Tryz.isAgg0
  z0 := Tryz.sizeOf0
  v0 := Tryz.zeroValue0
  t4 := Tryz.underlying4
  a4 := Tryz.isAgg4
  z4 := Tryz.sizeOf4
  v4 := Tryz.zeroValue4
  t23 := Tryz.underlying242
  a23 := Tryz.isAgg242
  z23 := Tryz.sizeOf242
  v23 := Tryz.zeroValue242
  t26 := Tryz.underlying3
  a26 := Tryz.isAgg3
  z26 := Tryz.sizeOf3
  v26 := Tryz.zeroValue3
  t27 := Tryz.underlying158
  a27 := Tryz.isAgg158
  z27 := Tryz.sizeOf158
  v27 := Tryz.zeroValue158
  t28 := Tryz.underlying159
  a28 := Tryz.isAgg159
  z28 := Tryz.sizeOf159
  v28 := Tryz.zeroValue159
  t33 := Tryz.underlying42
  a33 := Tryz.isAgg42
  z33 := Tryz.sizeOf42
  v33 := Tryz.zeroValue42 }
theorem Tryz.sortedA : SlLaysZI.n6 Tryz.prog Tryz.sortedA_ren := {
  mixed := by kernel_rfl
  f6 := ⟨Tryz.f77.name, by decide, Tryz.func77.trans (congrArg some (by kernel_rfl))⟩
  f8 := ⟨Tryz.f143.name, by decide, Tryz.func143.trans (congrArg some (by kernel_rfl))⟩
  f11 := ⟨Tryz.f207.name, by decide, Tryz.func207.trans (congrArg some (by kernel_rfl))⟩
  t0 := Tryz.underlying0
  a0 := Tryz.isAgg0
  z0 := Tryz.sizeOf0
  v0 := Tryz.zeroValue0
  t24 := Tryz.underlying105
  a24 := Tryz.isAgg105
  z24 := Tryz.sizeOf105
  v24 := Tryz.zeroValue105
  t26 := Tryz.underlying3
  a26 := Tryz.isAgg3
  z26 := Tryz.sizeOf3
  v26 := Tryz.zeroValue3
  t28 := Tryz.underlying159
  a28 := Tryz.isAgg159
  z28 := Tryz.sizeOf159
  v28 := Tryz.zeroValue159
  i26 := by kernel_rfl }
theorem Tryz.sortA : SlLaysM.n5 Tryz.prog Tryz.sortA_ren := {
  mixed := by kernel_rfl
  f5 := ⟨Tryz.f144.name, by decide, Tryz.func144.trans (congrArg some (by kernel_rfl))⟩
  f7 := ⟨Tryz.f208.name, by decide, Tryz.func208.trans (congrArg some (by kernel_rfl))⟩
  f8 := Tryz.func147.trans (congrArg some (by kernel_rfl))
  f10 := ⟨Tryz.f260.name, by decide, Tryz.func260.trans (congrArg some (by kernel_rfl))⟩
  f11 := ⟨Tryz.f261.name, by decide, Tryz.func261.trans (congrArg some (by kernel_rfl))⟩
  f12 := ⟨Tryz.f262.name, by decide, Tryz.func262.trans (congrArg some (by kernel_rfl))⟩
  f13 := ⟨Tryz.f263.name, by decide, Tryz.func263.trans (congrArg some (by kernel_rfl))⟩
  f14 := ⟨Tryz.f264.name, by decide, Tryz.func264.trans (congrArg some (by kernel_rfl))⟩
  f15 := ⟨Tryz.f265.name, by decide, Tryz.func265.trans (congrArg some (by kernel_rfl))⟩
  f16 := ⟨Tryz.f266.name, by decide, Tryz.func266.trans (congrArg some (by kernel_rfl))⟩
  f17 := ⟨Tryz.f267.name, by decide, Tryz.func267.trans (congrArg some (by kernel_rfl))⟩
  f18 := ⟨Tryz.f268.name, by decide, Tryz.func268.trans (congrArg some (by kernel_rfl))⟩
  f19 := Tryz.func217.trans (congrArg some (by kernel_rfl))
  f20 := Tryz.func218.trans (congrArg some (by kernel_rfl))
  f30 := ⟨Tryz.f313.name, by decide, Tryz.func313.trans (congrArg some (by kernel_rfl))⟩
  f31 := Tryz.func270.trans (congrArg some (by kernel_rfl))
  f32 := Tryz.func271.trans (congrArg some (by kernel_rfl))
  f33 := ⟨Tryz.f314.name, by decide, Tryz.func314.trans (congrArg some (by kernel_rfl))⟩
  f34 := ⟨Tryz.f315.name, by decide, Tryz.func315.trans (congrArg some (by kernel_rfl))⟩
  f35 := ⟨Tryz.f148.name, by decide, Tryz.func148.trans (congrArg some (by kernel_rfl))⟩
  f40 := ⟨Tryz.f335.name, by decide, Tryz.func335.trans (congrArg some (by kernel_rfl))⟩
  t0 := Tryz.underlying0
  a0 := Tryz.isAgg0
  z0 := Tryz.sizeOf0
  v0 := Tryz.zeroValue0
  t3 := Tryz.underlying3
  a3 := Tryz.isAgg3
  z3 := Tryz.sizeOf3
  v3 := Tryz.zeroValue3
  t4 := Tryz.underlying4
  a4 := Tryz.isAgg4
  z4 := Tryz.sizeOf4
  v4 := Tryz.zeroValue4
  t5 := Tryz.underlying5
  a5 := Tryz.isAgg5
  z5 := Tryz.sizeOf5
  v5 := Tryz.zeroValue5
  t9 := Tryz.underlying9
  a9 := Tryz.isAgg9
  z9 := Tryz.sizeOf9
  v9 := Tryz.zeroValue9
  t22 := Tryz.underlying105
  a22 := Tryz.isAgg105
  z22 := Tryz.sizeOf105
  v22 := Tryz.zeroValue105
  t23 := Tryz.underlying105
  a23 := Tryz.isAgg105
  z23 := Tryz.sizeOf105
  v23 := Tryz.zeroValue105
  t25 := Tryz.underlying3
  a25 := Tryz.isAgg3
  z25 := Tryz.sizeOf3
  v25 := Tryz.zeroValue3
  t32 := Tryz.underlying80
  a32 := Tryz.isAgg80
  z32 := Tryz.sizeOf80
  v32 := Tryz.zeroValue80
  t35 := Tryz.underlying277
  a35 := Tryz.isAgg277
  z35 := Tryz.sizeOf277
  v35 := Tryz.zeroValue277
  t36 := Tryz.underlying278
  a36 := Tryz.isAgg278
  z36 := Tryz.sizeOf278
  v36 := Tryz.zeroValue278
  t41 := Tryz.underlying282
  a41 := Tryz.isAgg282
  z41 := Tryz.sizeOf282
  v41 := Tryz.zeroValue282
  t44 := Tryz.underlying263
  a44 := Tryz.isAgg263
  z44 := Tryz.sizeOf263
  v44 := Tryz.zeroValue263
  t46 := Tryz.underlying237
  a46 := Tryz.isAgg237
  z46 := Tryz.sizeOf237
  v46 := Tryz.zeroValue237
  t53 := Tryz.underlying318
  a53 := Tryz.isAgg318
  z53 := Tryz.sizeOf318
  v53 := Tryz.zeroValue318
  t57 := Tryz.underlying322
  a57 := Tryz.isAgg322
  z57 := Tryz.sizeOf322
  v57 := Tryz.zeroValue322
  t63 := Tryz.underlying359
  a63 := Tryz.isAgg359
  z63 := Tryz.sizeOf359
  v63 := Tryz.zeroValue359
  t64 := Tryz.underlying360
  a64 := Tryz.isAgg360
  z64 := Tryz.sizeOf360
  v64 := Tryz.zeroValue360 }
theorem sortsA (m : Nat) : AnyZI.SortsIn Tryz.prog Tryz.sortedA_ren Fence.wide m :=
  ⟨fun blk off cap ss W hH hblk hsz => callsIn_wide.2 (AnyM.slices_Sort_int Tryz.sortA blk off cap ss W hH hblk hsz),
   fun p cap W => callsIn_wide.2 (AnyM.slices_Sort_int_none Tryz.sortA p cap W)⟩

/-- A value is looked at no further. -/
def noVal : Value → Option (DataW Unit × List MemPlace) := fun _ => some (.nil, [])

theorem key_int {z : Int} (hz : -9223372036854775808 ≤ z ∧ z ≤ 9223372036854775807) : keyOf Tryz.prog 3 (.int .i64 z) = some (.int .i64 z) := by
  have hw : (Lit.int .i64 z).wf = true := by
    simp only [Lit.wf, Bool.and_eq_true, decide_eq_true_eq]
    exact hz
  have hu : Tryz.prog.underlying 3 = some (.int .i64) := Tryz.underlying3
  unfold keyOf
  rw [hu]
  simp only
  unfold mapKey
  rw [hu]
  simp [hw]

set_option maxHeartbeats 1000000 in
/-- In the world: of the iterator that maps.Keys has made, whose box lies at a block's beginning. -/
theorem sorted_world78 {H : Type} (q b nn : Nat) (D0 : DataW H) (R : Value → Option (DataW H × List MemPlace)) (w : World) (hq : q < w.heap.size) (hcell : w.cell? ⟨q, 0, none⟩ = some (.map (some b))) (hown : w.ownsMap Tryz.prog 3 R b nn D0) (hmax : Maps.size D0 ≤ maxLen) (hbytes : Maps.size D0 * 8 ≤ 140737488355328) :
    Calls Tryz.prog 77 #[.func (.func 145) #[] #[.pointer (some ⟨q, 0, none⟩)]] w fun e w' => ∃ (v : Value) (ss : List Int), e = .returned v ∧ ss.Perm (intKeys D0) ∧
      w'.ownsRow w.heap.size 3 1 v ss.length ((ss.mergeSort (fun x y => decide (x ≤ y))).map encZ) ∧ (v = .slice none 0 0 ↔ ss = []) ∧ Below w.heap.size w w' := by
  refine (callsIn_wide (n := 5)).1 ?_
  have hseq : SeqGives Fence.wide 2 Tryz.prog 145 #[.pointer (some ⟨q, 0, none⟩)] encZ (fun ss => ss.Perm (intKeys D0)) (Maps.size D0) w :=
    AnyZI.keys_gives (ρ := Tryz.keysA78_ren) { Tryz.keysA78 with } Fence.wide _ trivial rfl (by omega) q b nn D0 _ hq hcell hown
  have cS := AnyZI.sorted_in Tryz.sortedA Fence.wide 5 trivial trivial trivial trivial rfl (by omega) (sortsA _) (enters_of Tryz.func144 (by kernel_rfl) rfl) 145 #[.pointer (some ⟨q, 0, none⟩)] trivial (enters_of Tryz.func145 (by kernel_rfl) rfl) _ _ hmax hbytes _ hseq
  change CallsIn _ _ Tryz.prog 77 _ _ _ at cS
  exact cS.mono fun e w' ⟨v, ss, h1, h2, h3, h4, h5⟩ => ⟨v, ss, h1, h2, h3, h4, h5⟩

set_option maxRecDepth 100000 in
theorem sorted_keys78 (M : Mem) (q b : Nat) (rw' : Bool) (es : List (AV × AV)) (ks : List Int) (hq : M.get q = some (.cells [.map b] rw')) (hb : M.get b = some (.map es)) (hes : es.map (·.1) = ks.map i64) (hnd : ks.Nodup)
    (hr : ∀ k ∈ ks, -9223372036854775808 ≤ k ∧ k ≤ 9223372036854775807) (hlen : ks.length ≤ 1000) :
    CallA tb.P 77 [.fn 145 [] [.ptr q 0]] M fun y N => (ks = [] ∧ y = .val (.slice none 0 0) ∧ N = M) ∨ (ks ≠ [] ∧ y = .sl M.next 0 ks.length ks.length (some 1) ∧ N = M.new (.cells ((sortI ks).map i64) true)) := by
  intro ι w vs hv R
  obtain ⟨vl⟩ := vs
  cases hv with
  | cons _ v0 _ _ h1 h2 =>
  cases h2
  cases h1 with
  | fn _ _ _ vf vc hf hc =>
  obtain ⟨vfl⟩ := vf
  obtain ⟨vcl⟩ := vc
  cases hf
  cases hc with
  | cons _ p0 _ _ h3 h4 =>
  cases h4
  cases h3 with
  | ptr _ _ lq hlq =>
  have h0 : lq.base = 0 := R.bas _ _ hlq
  obtain ⟨lb, hlb, hrowb⟩ := R.live b _ hb
  obtain ⟨ms, clock, hob, hE, hbo⟩ := R.obj hb hlb
  obtain ⟨u, hu, hvu⟩ := R.cell (b := q) (o := 0) (x := .map b) (by unfold Mem.cellAt; rw [hq]; rfl) hlq
  have hu' : u = .map (some lb.blk) := by
    cases hvu with
    | map _ l hl => rw [hlb] at hl; injection hl with hl; rw [hl]
  subst hu'
  rw [h0] at hu ⊢
  have hkeys := hE.keys hes
  have hmsl : ms.toList.length = ks.length := by
    have := congrArg List.length hkeys
    simpa using this
  have hql : lq.blk < w.heap.size := by
    obtain ⟨l', k1, k2⟩ := R.live q _ hq
    rw [hlq] at k1; injection k1 with k1; subst k1
    exact row_lt k2
  have hml : (1000 : Nat) ≤ maxLen := by decide
  have hread : ∀ x ∈ ms.toList, ∃ z, x.key = .int .i64 z ∧ z ∈ ks ∧ rd Tryz.prog 3 noVal x = some (.int .i64 z, .nil) := fun x hx => by
    have : x.key ∈ ms.toList.map (·.key) := List.mem_map.2 ⟨x, hx, rfl⟩
    rw [hkeys] at this
    obtain ⟨z, hz, hzx⟩ := List.mem_map.1 this
    refine ⟨z, hzx.symm, hz, ?_⟩
    unfold WideElems.rd
    rw [← hzx, key_int (hr z hz)]
    rfl
  have hfit : Fit Tryz.prog 3 noVal ms clock := ⟨by rw [← Array.length_toList, hmsl]; omega, ⟨hbo.1, hbo.2, by rw [hkeys]; exact (List.pairwise_map.2 (hnd.imp fun hne e => hne (by injection e)))⟩, fun x hx => by obtain ⟨z, _, _, h⟩ := hread x hx; exact ⟨_, h⟩⟩
  have hown : w.ownsMap Tryz.prog 3 noVal lb.blk ms.size (.map ((ms.toList.map (rg Tryz.prog 3 noVal)).foldr DataW.insert [])) := ⟨ms, clock, hob, hfit, Nat.le_refl _, rfl⟩
  have hik : (intKeys (.map ((ms.toList.map (rg Tryz.prog 3 noVal)).foldr DataW.insert [])) : List Int).Perm ks := by
    show ((((ms.toList.map (rg Tryz.prog 3 noVal)).foldr DataW.insert []).map fun p => Go.intOf p.1) : List Int).Perm ks
    refine ((WideShapes.sorted_perm _).map _).trans ?_
    rw [List.map_map]
    have : ms.toList.map ((fun p => Go.intOf p.1) ∘ rg Tryz.prog 3 noVal) = ks := by
      have h5 : ms.toList.map ((fun p => Go.intOf p.1) ∘ rg Tryz.prog 3 noVal) = (ms.toList.map (·.key)).map (fun v => match v with | .int _ z => z | _ => 0) := by
        rw [List.map_map]
        apply List.map_congr_left
        intro x hx
        obtain ⟨z, h6, _, h7⟩ := hread x hx
        show Go.intOf (rg Tryz.prog 3 noVal x).1 = _
        rw [rg_of h7]
        show z = (match x.key with | .int _ z => z | _ => 0)
        rw [h6]
      rw [h5, hkeys, List.map_map]
      simp [Function.comp_def]
    rw [this]
  have hsz : Maps.size (.map ((ms.toList.map (rg Tryz.prog 3 noVal)).foldr DataW.insert []) : DataW Unit) = ks.length := by
    show ((ms.toList.map (rg Tryz.prog 3 noVal)).foldr DataW.insert []).length = _
    rw [length_sorted, List.length_map, hmsl]
  refine (sorted_world78 lq.blk lb.blk ms.size _ noVal w hql hu hown (by rw [hsz]; omega) (by rw [hsz]; omega)).mono ?_
  rintro e w' ⟨v, ss, rfl, hperm, hrow, hnil, hbel⟩
  have hss := hperm.trans hik
  have hlt : ∀ k, LvAt ι M k → k < w.heap.size := fun k h => h.lt R
  have S0 : Stp ι M w ι M w' := (Stp.refl R).side (r := w.heap.size) (Nat.le_refl _) (fun h => absurd (hlt _ h) (Nat.lt_irrefl _)) hbel.size (fun k hk _ => hbel.block k hk) hbel.os hbel.tape hbel.output
  rcases hrow.2 with ⟨rfl, hz⟩ | ⟨g, cap, cur, rfl, hg, hgo, hle, hcap, hcs, htk⟩
  · have : ss = [] := List.eq_nil_of_length_eq_zero hz
    subst this
    exact ⟨ι, _, .val (.slice none 0 0), M, rfl, .val _ rfl, S0, .inl ⟨List.nil_perm.1 hss, rfl, rfl⟩⟩
  · have hne : ss ≠ [] := fun e => by have := hnil.2 e; cases this
    have hpos : 0 < ss.length := List.length_pos_iff.2 hne
    have hml : (ss.mergeSort (fun x y => decide (x ≤ y))).length = ss.length := List.length_mergeSort _
    rw [Nat.mul_one] at hcs htk
    have hrr : RowR (fun c => if c = M.next then some ⟨g, 0, cur.size⟩ else ι c) ⟨g, 0, cur.size⟩ (.cells ((ss.mergeSort (fun x y => decide (x ≤ y))).map i64) true) (some (.cells cur 3 (0, 0))) := by
      refine ⟨rfl, by simp only [List.length_map, hml]; omega, ?_, fun _ k _ => by simp⟩
      simp only [List.drop_zero, List.length_map, hml]
      rw [htk]
      have : ∀ l : List Int, VRs (fun c => if c = M.next then some ⟨g, 0, cur.size⟩ else ι c) (l.map i64) (l.map encZ) := fun l => by
        induction l with
        | nil => exact .nil
        | cons a l ih => exact .cons _ _ _ _ (.val _ rfl) ih
      exact this _
    have S1 := Stp.adopt S0 hg hgo hrr hlt
    have hkl : ks.length = ss.length := hss.length_eq.symm
    refine ⟨_, _, .sl M.next 0 ss.length ss.length (some 1), _, rfl, ?_, S1, .inr ⟨fun e => hne (by rw [e] at hss; exact hss.eq_nil), by rw [hkl], by rw [merge_sortI hss]⟩⟩
    exact VR.slI M.next 0 ss.length ss.length 1 cap ⟨g, 0, cur.size⟩ (by simp) hle (by simp only; omega)


theorem orcKeys78_ok {args : List AV} {M : Mem} {x : AV} {M' : Mem} (h : orcKeys 145 args M = some (x, M')) : CallA tb.P 77 args M fun y N => y = x ∧ N = M' := by
  unfold orcKeys at h
  split at h
  · rename_i it q
    rw [cond_eq_ite] at h
    split at h
    · rename_i hit
      have hit : it = 145 := by simpa using hit
      subst hit
      split at h
      · rename_i b rw' hq
        split at h
        · rename_i es hb
          split at h
          · rename_i hk
            simp only [Option.some.injEq, Prod.mk.injEq] at h
            obtain ⟨rfl, rfl⟩ := h
            refine (sorted_keys78 M q b rw' es [] hq hb (keysI_ok hk) List.nodup_nil (fun k hk => by simp at hk) (by simp)).mono ?_
            rintro y N (⟨_, rfl, rfl⟩ | ⟨h, _⟩)
            · exact ⟨rfl, rfl⟩
            · exact absurd rfl h
          · rename_i k ks hk
            rw [cond_eq_ite] at h
            split at h
            · rename_i hc
              rw [Bool.and_eq_true] at hc
              have h1 := okKeys_ok hc.1
              simp only [Option.some.injEq, Prod.mk.injEq] at h
              obtain ⟨rfl, rfl⟩ := h
              refine (sorted_keys78 M q b rw' es (k :: ks) hq hb (keysI_ok hk) h1.1 h1.2 (Nat.le_of_ble_eq_true hc.2)).mono ?_
              rintro y N (⟨h, _⟩ | ⟨_, rfl, rfl⟩)
              · cases h
              · exact ⟨rfl, rfl⟩
            · cases h
          · cases h
        · cases h
      · cases h
    · cases h
  · cases h

set_option maxHeartbeats 1000000 in
/-- In the world: of the iterator that maps.Keys has made, whose box lies at a block's beginning. -/
theorem sorted_world94 {H : Type} (q b nn : Nat) (D0 : DataW H) (R : Value → Option (DataW H × List MemPlace)) (w : World) (hq : q < w.heap.size) (hcell : w.cell? ⟨q, 0, none⟩ = some (.map (some b))) (hown : w.ownsMap Tryz.prog 3 R b nn D0) (hmax : Maps.size D0 ≤ maxLen) (hbytes : Maps.size D0 * 8 ≤ 140737488355328) :
    Calls Tryz.prog 77 #[.func (.func 158) #[] #[.pointer (some ⟨q, 0, none⟩)]] w fun e w' => ∃ (v : Value) (ss : List Int), e = .returned v ∧ ss.Perm (intKeys D0) ∧
      w'.ownsRow w.heap.size 3 1 v ss.length ((ss.mergeSort (fun x y => decide (x ≤ y))).map encZ) ∧ (v = .slice none 0 0 ↔ ss = []) ∧ Below w.heap.size w w' := by
  refine (callsIn_wide (n := 5)).1 ?_
  have hseq : SeqGives Fence.wide 2 Tryz.prog 158 #[.pointer (some ⟨q, 0, none⟩)] encZ (fun ss => ss.Perm (intKeys D0)) (Maps.size D0) w :=
    AnyZI.keys_gives (ρ := Tryz.keysA94_ren) { Tryz.keysA94 with } Fence.wide _ trivial rfl (by omega) q b nn D0 _ hq hcell hown
  have cS := AnyZI.sorted_in Tryz.sortedA Fence.wide 5 trivial trivial trivial trivial rfl (by omega) (sortsA _) (enters_of Tryz.func144 (by kernel_rfl) rfl) 158 #[.pointer (some ⟨q, 0, none⟩)] trivial (enters_of Tryz.func158 (by kernel_rfl) rfl) _ _ hmax hbytes _ hseq
  change CallsIn _ _ Tryz.prog 77 _ _ _ at cS
  exact cS.mono fun e w' ⟨v, ss, h1, h2, h3, h4, h5⟩ => ⟨v, ss, h1, h2, h3, h4, h5⟩

set_option maxRecDepth 100000 in
theorem sorted_keys94 (M : Mem) (q b : Nat) (rw' : Bool) (es : List (AV × AV)) (ks : List Int) (hq : M.get q = some (.cells [.map b] rw')) (hb : M.get b = some (.map es)) (hes : es.map (·.1) = ks.map i64) (hnd : ks.Nodup)
    (hr : ∀ k ∈ ks, -9223372036854775808 ≤ k ∧ k ≤ 9223372036854775807) (hlen : ks.length ≤ 1000) :
    CallA tb.P 77 [.fn 158 [] [.ptr q 0]] M fun y N => (ks = [] ∧ y = .val (.slice none 0 0) ∧ N = M) ∨ (ks ≠ [] ∧ y = .sl M.next 0 ks.length ks.length (some 1) ∧ N = M.new (.cells ((sortI ks).map i64) true)) := by
  intro ι w vs hv R
  obtain ⟨vl⟩ := vs
  cases hv with
  | cons _ v0 _ _ h1 h2 =>
  cases h2
  cases h1 with
  | fn _ _ _ vf vc hf hc =>
  obtain ⟨vfl⟩ := vf
  obtain ⟨vcl⟩ := vc
  cases hf
  cases hc with
  | cons _ p0 _ _ h3 h4 =>
  cases h4
  cases h3 with
  | ptr _ _ lq hlq =>
  have h0 : lq.base = 0 := R.bas _ _ hlq
  obtain ⟨lb, hlb, hrowb⟩ := R.live b _ hb
  obtain ⟨ms, clock, hob, hE, hbo⟩ := R.obj hb hlb
  obtain ⟨u, hu, hvu⟩ := R.cell (b := q) (o := 0) (x := .map b) (by unfold Mem.cellAt; rw [hq]; rfl) hlq
  have hu' : u = .map (some lb.blk) := by
    cases hvu with
    | map _ l hl => rw [hlb] at hl; injection hl with hl; rw [hl]
  subst hu'
  rw [h0] at hu ⊢
  have hkeys := hE.keys hes
  have hmsl : ms.toList.length = ks.length := by
    have := congrArg List.length hkeys
    simpa using this
  have hql : lq.blk < w.heap.size := by
    obtain ⟨l', k1, k2⟩ := R.live q _ hq
    rw [hlq] at k1; injection k1 with k1; subst k1
    exact row_lt k2
  have hml : (1000 : Nat) ≤ maxLen := by decide
  have hread : ∀ x ∈ ms.toList, ∃ z, x.key = .int .i64 z ∧ z ∈ ks ∧ rd Tryz.prog 3 noVal x = some (.int .i64 z, .nil) := fun x hx => by
    have : x.key ∈ ms.toList.map (·.key) := List.mem_map.2 ⟨x, hx, rfl⟩
    rw [hkeys] at this
    obtain ⟨z, hz, hzx⟩ := List.mem_map.1 this
    refine ⟨z, hzx.symm, hz, ?_⟩
    unfold WideElems.rd
    rw [← hzx, key_int (hr z hz)]
    rfl
  have hfit : Fit Tryz.prog 3 noVal ms clock := ⟨by rw [← Array.length_toList, hmsl]; omega, ⟨hbo.1, hbo.2, by rw [hkeys]; exact (List.pairwise_map.2 (hnd.imp fun hne e => hne (by injection e)))⟩, fun x hx => by obtain ⟨z, _, _, h⟩ := hread x hx; exact ⟨_, h⟩⟩
  have hown : w.ownsMap Tryz.prog 3 noVal lb.blk ms.size (.map ((ms.toList.map (rg Tryz.prog 3 noVal)).foldr DataW.insert [])) := ⟨ms, clock, hob, hfit, Nat.le_refl _, rfl⟩
  have hik : (intKeys (.map ((ms.toList.map (rg Tryz.prog 3 noVal)).foldr DataW.insert [])) : List Int).Perm ks := by
    show ((((ms.toList.map (rg Tryz.prog 3 noVal)).foldr DataW.insert []).map fun p => Go.intOf p.1) : List Int).Perm ks
    refine ((WideShapes.sorted_perm _).map _).trans ?_
    rw [List.map_map]
    have : ms.toList.map ((fun p => Go.intOf p.1) ∘ rg Tryz.prog 3 noVal) = ks := by
      have h5 : ms.toList.map ((fun p => Go.intOf p.1) ∘ rg Tryz.prog 3 noVal) = (ms.toList.map (·.key)).map (fun v => match v with | .int _ z => z | _ => 0) := by
        rw [List.map_map]
        apply List.map_congr_left
        intro x hx
        obtain ⟨z, h6, _, h7⟩ := hread x hx
        show Go.intOf (rg Tryz.prog 3 noVal x).1 = _
        rw [rg_of h7]
        show z = (match x.key with | .int _ z => z | _ => 0)
        rw [h6]
      rw [h5, hkeys, List.map_map]
      simp [Function.comp_def]
    rw [this]
  have hsz : Maps.size (.map ((ms.toList.map (rg Tryz.prog 3 noVal)).foldr DataW.insert []) : DataW Unit) = ks.length := by
    show ((ms.toList.map (rg Tryz.prog 3 noVal)).foldr DataW.insert []).length = _
    rw [length_sorted, List.length_map, hmsl]
  refine (sorted_world94 lq.blk lb.blk ms.size _ noVal w hql hu hown (by rw [hsz]; omega) (by rw [hsz]; omega)).mono ?_
  rintro e w' ⟨v, ss, rfl, hperm, hrow, hnil, hbel⟩
  have hss := hperm.trans hik
  have hlt : ∀ k, LvAt ι M k → k < w.heap.size := fun k h => h.lt R
  have S0 : Stp ι M w ι M w' := (Stp.refl R).side (r := w.heap.size) (Nat.le_refl _) (fun h => absurd (hlt _ h) (Nat.lt_irrefl _)) hbel.size (fun k hk _ => hbel.block k hk) hbel.os hbel.tape hbel.output
  rcases hrow.2 with ⟨rfl, hz⟩ | ⟨g, cap, cur, rfl, hg, hgo, hle, hcap, hcs, htk⟩
  · have : ss = [] := List.eq_nil_of_length_eq_zero hz
    subst this
    exact ⟨ι, _, .val (.slice none 0 0), M, rfl, .val _ rfl, S0, .inl ⟨List.nil_perm.1 hss, rfl, rfl⟩⟩
  · have hne : ss ≠ [] := fun e => by have := hnil.2 e; cases this
    have hpos : 0 < ss.length := List.length_pos_iff.2 hne
    have hml : (ss.mergeSort (fun x y => decide (x ≤ y))).length = ss.length := List.length_mergeSort _
    rw [Nat.mul_one] at hcs htk
    have hrr : RowR (fun c => if c = M.next then some ⟨g, 0, cur.size⟩ else ι c) ⟨g, 0, cur.size⟩ (.cells ((ss.mergeSort (fun x y => decide (x ≤ y))).map i64) true) (some (.cells cur 3 (0, 0))) := by
      refine ⟨rfl, by simp only [List.length_map, hml]; omega, ?_, fun _ k _ => by simp⟩
      simp only [List.drop_zero, List.length_map, hml]
      rw [htk]
      have : ∀ l : List Int, VRs (fun c => if c = M.next then some ⟨g, 0, cur.size⟩ else ι c) (l.map i64) (l.map encZ) := fun l => by
        induction l with
        | nil => exact .nil
        | cons a l ih => exact .cons _ _ _ _ (.val _ rfl) ih
      exact this _
    have S1 := Stp.adopt S0 hg hgo hrr hlt
    have hkl : ks.length = ss.length := hss.length_eq.symm
    refine ⟨_, _, .sl M.next 0 ss.length ss.length (some 1), _, rfl, ?_, S1, .inr ⟨fun e => hne (by rw [e] at hss; exact hss.eq_nil), by rw [hkl], by rw [merge_sortI hss]⟩⟩
    exact VR.slI M.next 0 ss.length ss.length 1 cap ⟨g, 0, cur.size⟩ (by simp) hle (by simp only; omega)


theorem orcKeys94_ok {args : List AV} {M : Mem} {x : AV} {M' : Mem} (h : orcKeys 158 args M = some (x, M')) : CallA tb.P 77 args M fun y N => y = x ∧ N = M' := by
  unfold orcKeys at h
  split at h
  · rename_i it q
    rw [cond_eq_ite] at h
    split at h
    · rename_i hit
      have hit : it = 158 := by simpa using hit
      subst hit
      split at h
      · rename_i b rw' hq
        split at h
        · rename_i es hb
          split at h
          · rename_i hk
            simp only [Option.some.injEq, Prod.mk.injEq] at h
            obtain ⟨rfl, rfl⟩ := h
            refine (sorted_keys94 M q b rw' es [] hq hb (keysI_ok hk) List.nodup_nil (fun k hk => by simp at hk) (by simp)).mono ?_
            rintro y N (⟨_, rfl, rfl⟩ | ⟨h, _⟩)
            · exact ⟨rfl, rfl⟩
            · exact absurd rfl h
          · rename_i k ks hk
            rw [cond_eq_ite] at h
            split at h
            · rename_i hc
              rw [Bool.and_eq_true] at hc
              have h1 := okKeys_ok hc.1
              simp only [Option.some.injEq, Prod.mk.injEq] at h
              obtain ⟨rfl, rfl⟩ := h
              refine (sorted_keys94 M q b rw' es (k :: ks) hq hb (keysI_ok hk) h1.1 h1.2 (Nat.le_of_ble_eq_true hc.2)).mono ?_
              rintro y N (⟨h, _⟩ | ⟨_, rfl, rfl⟩)
              · cases h
              · exact ⟨rfl, rfl⟩
            · cases h
          · cases h
        · cases h
      · cases h
    · cases h
  · cases h

set_option maxHeartbeats 1000000 in
/-- In the world: of the iterator that maps.Keys has made, whose box lies at a block's beginning. -/
theorem sorted_world166 {H : Type} (q b nn : Nat) (D0 : DataW H) (R : Value → Option (DataW H × List MemPlace)) (w : World) (hq : q < w.heap.size) (hcell : w.cell? ⟨q, 0, none⟩ = some (.map (some b))) (hown : w.ownsMap Tryz.prog 3 R b nn D0) (hmax : Maps.size D0 ≤ maxLen) (hbytes : Maps.size D0 * 8 ≤ 140737488355328) :
    Calls Tryz.prog 77 #[.func (.func 232) #[] #[.pointer (some ⟨q, 0, none⟩)]] w fun e w' => ∃ (v : Value) (ss : List Int), e = .returned v ∧ ss.Perm (intKeys D0) ∧
      w'.ownsRow w.heap.size 3 1 v ss.length ((ss.mergeSort (fun x y => decide (x ≤ y))).map encZ) ∧ (v = .slice none 0 0 ↔ ss = []) ∧ Below w.heap.size w w' := by
  refine (callsIn_wide (n := 5)).1 ?_
  have hseq : SeqGives Fence.wide 2 Tryz.prog 232 #[.pointer (some ⟨q, 0, none⟩)] encZ (fun ss => ss.Perm (intKeys D0)) (Maps.size D0) w :=
    AnyZI.keys_gives (ρ := Tryz.keysA166_ren) { Tryz.keysA166 with } Fence.wide _ trivial rfl (by omega) q b nn D0 _ hq hcell hown
  have cS := AnyZI.sorted_in Tryz.sortedA Fence.wide 5 trivial trivial trivial trivial rfl (by omega) (sortsA _) (enters_of Tryz.func144 (by kernel_rfl) rfl) 232 #[.pointer (some ⟨q, 0, none⟩)] trivial (enters_of Tryz.func232 (by kernel_rfl) rfl) _ _ hmax hbytes _ hseq
  change CallsIn _ _ Tryz.prog 77 _ _ _ at cS
  exact cS.mono fun e w' ⟨v, ss, h1, h2, h3, h4, h5⟩ => ⟨v, ss, h1, h2, h3, h4, h5⟩

set_option maxRecDepth 100000 in
theorem sorted_keys166 (M : Mem) (q b : Nat) (rw' : Bool) (es : List (AV × AV)) (ks : List Int) (hq : M.get q = some (.cells [.map b] rw')) (hb : M.get b = some (.map es)) (hes : es.map (·.1) = ks.map i64) (hnd : ks.Nodup)
    (hr : ∀ k ∈ ks, -9223372036854775808 ≤ k ∧ k ≤ 9223372036854775807) (hlen : ks.length ≤ 1000) :
    CallA tb.P 77 [.fn 232 [] [.ptr q 0]] M fun y N => (ks = [] ∧ y = .val (.slice none 0 0) ∧ N = M) ∨ (ks ≠ [] ∧ y = .sl M.next 0 ks.length ks.length (some 1) ∧ N = M.new (.cells ((sortI ks).map i64) true)) := by
  intro ι w vs hv R
  obtain ⟨vl⟩ := vs
  cases hv with
  | cons _ v0 _ _ h1 h2 =>
  cases h2
  cases h1 with
  | fn _ _ _ vf vc hf hc =>
  obtain ⟨vfl⟩ := vf
  obtain ⟨vcl⟩ := vc
  cases hf
  cases hc with
  | cons _ p0 _ _ h3 h4 =>
  cases h4
  cases h3 with
  | ptr _ _ lq hlq =>
  have h0 : lq.base = 0 := R.bas _ _ hlq
  obtain ⟨lb, hlb, hrowb⟩ := R.live b _ hb
  obtain ⟨ms, clock, hob, hE, hbo⟩ := R.obj hb hlb
  obtain ⟨u, hu, hvu⟩ := R.cell (b := q) (o := 0) (x := .map b) (by unfold Mem.cellAt; rw [hq]; rfl) hlq
  have hu' : u = .map (some lb.blk) := by
    cases hvu with
    | map _ l hl => rw [hlb] at hl; injection hl with hl; rw [hl]
  subst hu'
  rw [h0] at hu ⊢
  have hkeys := hE.keys hes
  have hmsl : ms.toList.length = ks.length := by
    have := congrArg List.length hkeys
    simpa using this
  have hql : lq.blk < w.heap.size := by
    obtain ⟨l', k1, k2⟩ := R.live q _ hq
    rw [hlq] at k1; injection k1 with k1; subst k1
    exact row_lt k2
  have hml : (1000 : Nat) ≤ maxLen := by decide
  have hread : ∀ x ∈ ms.toList, ∃ z, x.key = .int .i64 z ∧ z ∈ ks ∧ rd Tryz.prog 3 noVal x = some (.int .i64 z, .nil) := fun x hx => by
    have : x.key ∈ ms.toList.map (·.key) := List.mem_map.2 ⟨x, hx, rfl⟩
    rw [hkeys] at this
    obtain ⟨z, hz, hzx⟩ := List.mem_map.1 this
    refine ⟨z, hzx.symm, hz, ?_⟩
    unfold WideElems.rd
    rw [← hzx, key_int (hr z hz)]
    rfl
  have hfit : Fit Tryz.prog 3 noVal ms clock := ⟨by rw [← Array.length_toList, hmsl]; omega, ⟨hbo.1, hbo.2, by rw [hkeys]; exact (List.pairwise_map.2 (hnd.imp fun hne e => hne (by injection e)))⟩, fun x hx => by obtain ⟨z, _, _, h⟩ := hread x hx; exact ⟨_, h⟩⟩
  have hown : w.ownsMap Tryz.prog 3 noVal lb.blk ms.size (.map ((ms.toList.map (rg Tryz.prog 3 noVal)).foldr DataW.insert [])) := ⟨ms, clock, hob, hfit, Nat.le_refl _, rfl⟩
  have hik : (intKeys (.map ((ms.toList.map (rg Tryz.prog 3 noVal)).foldr DataW.insert [])) : List Int).Perm ks := by
    show ((((ms.toList.map (rg Tryz.prog 3 noVal)).foldr DataW.insert []).map fun p => Go.intOf p.1) : List Int).Perm ks
    refine ((WideShapes.sorted_perm _).map _).trans ?_
    rw [List.map_map]
    have : ms.toList.map ((fun p => Go.intOf p.1) ∘ rg Tryz.prog 3 noVal) = ks := by
      have h5 : ms.toList.map ((fun p => Go.intOf p.1) ∘ rg Tryz.prog 3 noVal) = (ms.toList.map (·.key)).map (fun v => match v with | .int _ z => z | _ => 0) := by
        rw [List.map_map]
        apply List.map_congr_left
        intro x hx
        obtain ⟨z, h6, _, h7⟩ := hread x hx
        show Go.intOf (rg Tryz.prog 3 noVal x).1 = _
        rw [rg_of h7]
        show z = (match x.key with | .int _ z => z | _ => 0)
        rw [h6]
      rw [h5, hkeys, List.map_map]
      simp [Function.comp_def]
    rw [this]
  have hsz : Maps.size (.map ((ms.toList.map (rg Tryz.prog 3 noVal)).foldr DataW.insert []) : DataW Unit) = ks.length := by
    show ((ms.toList.map (rg Tryz.prog 3 noVal)).foldr DataW.insert []).length = _
    rw [length_sorted, List.length_map, hmsl]
  refine (sorted_world166 lq.blk lb.blk ms.size _ noVal w hql hu hown (by rw [hsz]; omega) (by rw [hsz]; omega)).mono ?_
  rintro e w' ⟨v, ss, rfl, hperm, hrow, hnil, hbel⟩
  have hss := hperm.trans hik
  have hlt : ∀ k, LvAt ι M k → k < w.heap.size := fun k h => h.lt R
  have S0 : Stp ι M w ι M w' := (Stp.refl R).side (r := w.heap.size) (Nat.le_refl _) (fun h => absurd (hlt _ h) (Nat.lt_irrefl _)) hbel.size (fun k hk _ => hbel.block k hk) hbel.os hbel.tape hbel.output
  rcases hrow.2 with ⟨rfl, hz⟩ | ⟨g, cap, cur, rfl, hg, hgo, hle, hcap, hcs, htk⟩
  · have : ss = [] := List.eq_nil_of_length_eq_zero hz
    subst this
    exact ⟨ι, _, .val (.slice none 0 0), M, rfl, .val _ rfl, S0, .inl ⟨List.nil_perm.1 hss, rfl, rfl⟩⟩
  · have hne : ss ≠ [] := fun e => by have := hnil.2 e; cases this
    have hpos : 0 < ss.length := List.length_pos_iff.2 hne
    have hml : (ss.mergeSort (fun x y => decide (x ≤ y))).length = ss.length := List.length_mergeSort _
    rw [Nat.mul_one] at hcs htk
    have hrr : RowR (fun c => if c = M.next then some ⟨g, 0, cur.size⟩ else ι c) ⟨g, 0, cur.size⟩ (.cells ((ss.mergeSort (fun x y => decide (x ≤ y))).map i64) true) (some (.cells cur 3 (0, 0))) := by
      refine ⟨rfl, by simp only [List.length_map, hml]; omega, ?_, fun _ k _ => by simp⟩
      simp only [List.drop_zero, List.length_map, hml]
      rw [htk]
      have : ∀ l : List Int, VRs (fun c => if c = M.next then some ⟨g, 0, cur.size⟩ else ι c) (l.map i64) (l.map encZ) := fun l => by
        induction l with
        | nil => exact .nil
        | cons a l ih => exact .cons _ _ _ _ (.val _ rfl) ih
      exact this _
    have S1 := Stp.adopt S0 hg hgo hrr hlt
    have hkl : ks.length = ss.length := hss.length_eq.symm
    refine ⟨_, _, .sl M.next 0 ss.length ss.length (some 1), _, rfl, ?_, S1, .inr ⟨fun e => hne (by rw [e] at hss; exact hss.eq_nil), by rw [hkl], by rw [merge_sortI hss]⟩⟩
    exact VR.slI M.next 0 ss.length ss.length 1 cap ⟨g, 0, cur.size⟩ (by simp) hle (by simp only; omega)


theorem orcKeys166_ok {args : List AV} {M : Mem} {x : AV} {M' : Mem} (h : orcKeys 232 args M = some (x, M')) : CallA tb.P 77 args M fun y N => y = x ∧ N = M' := by
  unfold orcKeys at h
  split at h
  · rename_i it q
    rw [cond_eq_ite] at h
    split at h
    · rename_i hit
      have hit : it = 232 := by simpa using hit
      subst hit
      split at h
      · rename_i b rw' hq
        split at h
        · rename_i es hb
          split at h
          · rename_i hk
            simp only [Option.some.injEq, Prod.mk.injEq] at h
            obtain ⟨rfl, rfl⟩ := h
            refine (sorted_keys166 M q b rw' es [] hq hb (keysI_ok hk) List.nodup_nil (fun k hk => by simp at hk) (by simp)).mono ?_
            rintro y N (⟨_, rfl, rfl⟩ | ⟨h, _⟩)
            · exact ⟨rfl, rfl⟩
            · exact absurd rfl h
          · rename_i k ks hk
            rw [cond_eq_ite] at h
            split at h
            · rename_i hc
              rw [Bool.and_eq_true] at hc
              have h1 := okKeys_ok hc.1
              simp only [Option.some.injEq, Prod.mk.injEq] at h
              obtain ⟨rfl, rfl⟩ := h
              refine (sorted_keys166 M q b rw' es (k :: ks) hq hb (keysI_ok hk) h1.1 h1.2 (Nat.le_of_ble_eq_true hc.2)).mono ?_
              rintro y N (⟨h, _⟩ | ⟨_, rfl, rfl⟩)
              · cases h
              · exact ⟨rfl, rfl⟩
            · cases h
          · cases h
        · cases h
      · cases h
    · cases h
  · cases h

def geoOf : AV → Option Geo
  | .agg [.val (.int .i64 a), .val (.int .i64 b), .val (.int .i64 c), .val (.int .i64 d), .val (.int .i64 e)] => some ⟨a, b, c, d, e⟩
  | _ => none
theorem geoOf_eq {x : AV} {g : Geo} (h : geoOf x = some g) : x = geoA g := by
  unfold geoOf at h
  split at h
  · injection h with h; subst h; rfl
  · cases h
def placeOf : AV → Option (Int × Int)
  | .agg [.val (.int .i64 a), .val (.int .i64 b)] => some (a, b)
  | _ => none
theorem placeOf_eq {x : AV} {p : Int × Int} (h : placeOf x = some p) : x = placeA p.1 p.2 := by
  unfold placeOf at h
  split at h
  · injection h with h; subst h; rfl
  · cases h

noncomputable def oMay (args : List AV) (M : Mem) : Option (AV × Mem) := match args with
  | [x] => match geoOf x with
    | some g => some (.val (.bool (mayG g)), M)
    | none => none
  | _ => none
noncomputable def oRaw (args : List AV) (M : Mem) : Option (AV × Mem) := match args with
  | [x] => match geoOf x with
    | some g => cond (mayG g) (some (i64 (rawN g), M)) none
    | none => none
  | _ => none
noncomputable def oNumber (args : List AV) (M : Mem) : Option (AV × Mem) := match args with
  | [x, y] => match geoOf x with
    | some g => match placeOf y with
      | some p => cond (mayG g && isG g p.1 p.2) (some (i64 (p.1 * g.pg + p.2), M)) none
      | none => none
    | none => none
  | _ => none
noncomputable def oNext (args : List AV) (M : Mem) : Option (AV × Mem) := match args with
  | [x, y] => match geoOf x with
    | some g => match placeOf y with
      | some p => cond (mayG g && (Nat.blt (p.1 * g.pg + p.2).toNat (nP g) && (decide (p.1 = (plB g (p.1 * g.pg + p.2).toNat : Int)) && decide (p.2 = (plK g (p.1 * g.pg + p.2).toNat : Int)))))
        (cond (Nat.blt ((p.1 * g.pg + p.2).toNat + 1) (nP g)) (some (.tup [placeA (plB g ((p.1 * g.pg + p.2).toNat + 1)) (plK g ((p.1 * g.pg + p.2).toNat + 1)), .val (.bool true)], M)) (some (.tup [placeA 0 0, .val (.bool false)], M))) none
      | none => none
    | none => none
  | _ => none

theorem plain_ints {ι : Inj} (z w : Int) (b : Bool) : ∃ v, VR ι (.tup [placeA z w, .val (.bool b)]) v :=
  ⟨.tuple #[.agg #[.int .i64 z, .int .i64 w], .bool b], .tup _ _ (.cons _ _ _ _ (.agg _ _ (.cons _ _ _ _ (.val _ rfl) (.cons _ _ _ _ (.val _ rfl) .nil))) (.cons _ _ _ _ (.val _ rfl) .nil))⟩

theorem oMay_ok {args : List AV} {M : Mem} {x : AV} {M' : Mem} (h : oMay args M = some (x, M')) : CallA tb.P 73 args M fun y N => y = x ∧ N = M' := by
  unfold oMay at h
  split at h
  · split at h
    · rename_i x0 g hg
      simp only [Option.some.injEq, Prod.mk.injEq] at h
      obtain ⟨rfl, rfl⟩ := h
      rw [geoOf_eq hg]
      exact CallA.plain rfl fun hw => c_may102 M hw g
    · cases h
  · cases h
theorem oRaw_ok {args : List AV} {M : Mem} {x : AV} {M' : Mem} (h : oRaw args M = some (x, M')) : CallA tb.P 70 args M fun y N => y = x ∧ N = M' := by
  unfold oRaw at h
  split at h
  · split at h
    · rename_i x0 g hg
      rw [cond_eq_ite] at h
      split at h
      · rename_i hm
        simp only [Option.some.injEq, Prod.mk.injEq] at h
        obtain ⟨rfl, rfl⟩ := h
        rw [geoOf_eq hg]
        exact CallA.plain rfl fun hw => c_raw M hw g hm
      · cases h
    · cases h
  · cases h
theorem oNumber_ok {args : List AV} {M : Mem} {x : AV} {M' : Mem} (h : oNumber args M = some (x, M')) : CallA tb.P 72 args M fun y N => y = x ∧ N = M' := by
  unfold oNumber at h
  split at h
  · split at h
    · rename_i x0 y0 g hg
      split at h
      · rename_i p hp
        rw [cond_eq_ite] at h
        split at h
        · rename_i hm
          rw [Bool.and_eq_true] at hm
          simp only [Option.some.injEq, Prod.mk.injEq] at h
          obtain ⟨rfl, rfl⟩ := h
          rw [geoOf_eq hg, placeOf_eq hp]
          exact CallA.plain rfl fun hw => c_numberV M hw g hm.1 p.1 p.2 hm.2
        · cases h
      · cases h
    · cases h
  · cases h
theorem oNext_ok {args : List AV} {M : Mem} {x : AV} {M' : Mem} (h : oNext args M = some (x, M')) : CallA tb.P 40 args M fun y N => y = x ∧ N = M' := by
  unfold oNext at h
  split at h
  · split at h
    · rename_i x0 y0 g hg
      split at h
      · rename_i p hp
        rw [cond_eq_ite] at h
        split at h
        · rename_i hm
          simp only [Bool.and_eq_true, Nat.blt_eq, decide_eq_true_eq] at hm
          obtain ⟨hm, hi, h1, h2⟩ := hm
          rw [geoOf_eq hg, placeOf_eq hp]
          generalize hgi : (p.1 * g.pg + p.2).toNat = i at *
          have hpl : placeA p.1 p.2 = placeA (plB g i) (plK g i) := by rw [← h1, ← h2]
          rw [hpl]
          rw [cond_eq_ite] at h
          split at h
          · rename_i hlt
            have hlt : i + 1 < nP g := by simpa using hlt
            simp only [Option.some.injEq, Prod.mk.injEq] at h
            obtain ⟨rfl, rfl⟩ := h
            refine calla_wf fun hw => (c_next M hw g hm i hi).exact (fun y N hy => ?_) fun ι vs _ => plain_ints _ _ _
            rcases hy.2 with ⟨_, rfl⟩ | ⟨h3, _⟩
            · exact ⟨rfl, fun b r hb => hy.1.get hw hb (by simp)⟩
            · omega
          · rename_i hlt
            have hlt : ¬ i + 1 < nP g := by simpa using hlt
            simp only [Option.some.injEq, Prod.mk.injEq] at h
            obtain ⟨rfl, rfl⟩ := h
            refine calla_wf fun hw => (c_next M hw g hm i hi).exact (fun y N hy => ?_) fun ι vs _ => plain_ints _ _ _
            rcases hy.2 with ⟨h3, _⟩ | ⟨_, rfl⟩
            · omega
            · exact ⟨rfl, fun b r hb => hy.1.get hw hb (by simp)⟩
        · cases h
      · cases h
    · cases h
  · cases h

/-- The bytes of a slice. -/
noncomputable def unbs : List AV → Option (List (BitVec 8))
  | [] => some []
  | .val (.int .u8 z) :: r => cond (decide (0 ≤ z) && decide (z < 256)) (match unbs r with
    | some l => some (BitVec.ofNat 8 z.toNat :: l)
    | none => none) none
  | _ => none
theorem unbs_ok : ∀ {xs : List AV} {l : List (BitVec 8)}, unbs xs = some l → xs = bvs l
  | [], l, h => by
    simp only [unbs, Option.some.injEq] at h
    subst h; rfl
  | x :: r, l, h => by
    unfold unbs at h
    split at h
    · rename_i h1; cases h1
    · rename_i z r' h1
      injection h1 with h1 h2
      subst h1 h2
      rw [cond_eq_ite] at h
      split at h
      · rename_i hz
        simp only [Bool.and_eq_true, decide_eq_true_eq] at hz
        split at h
        · rename_i l' hl
          injection h with h; subst h
          rw [unbs_ok hl]
          show _ = bv8 _ :: bvs l'
          congr 1
          unfold bv8
          have : ((BitVec.ofNat 8 z.toNat).toNat : Int) = z := by
            rw [BitVec.toNat_ofNat, Nat.mod_eq_of_lt (by omega)]
            omega
          rw [this]
        · cases h
      · cases h
    · cases h

def exOk (ex : Option Nat) : Bool := match ex with
  | none => true
  | some k => Nat.beq k 1
noncomputable def sliceOf (x : AV) (M : Mem) : Option (List AV) := match x with
  | .sl b o n c ex => cond (Nat.ble n c && (exOk ex && Nat.ble n 1000)) (match M.get b with
    | some (.cells cs _) => cond (Nat.ble (o + n) cs.length) (some ((cs.drop o).take n)) none
    | _ => none) none
  | _ => none
theorem sliceOf_ok {x : AV} {M : Mem} {l : List (BitVec 8)} (h : sliceOf x M = some (bvs l)) : BytesAt M x l ∧ l.length ≤ 1000 := by
  unfold sliceOf at h
  split at h
  · rename_i b o n c ex
    rw [cond_eq_ite] at h
    split at h
    · rename_i hc
      simp only [Bool.and_eq_true] at hc
      have h1 := Nat.le_of_ble_eq_true hc.1
      have h3 := Nat.le_of_ble_eq_true hc.2.2
      have h2 : ex = none ∨ ex = some 1 := by
        have := hc.2.1
        unfold exOk at this
        split at this
        · exact .inl rfl
        · exact .inr (by rw [Nat.eq_of_beq_eq_true this])
      split at h
      · rename_i cs rw' hg
        rw [cond_eq_ite] at h
        split at h
        · rename_i hle
          have hle := Nat.le_of_ble_eq_true hle
          injection h with h
          have hln : l.length = n := by
            have := congrArg List.length h
            simp only [bvs_length, List.length_take, List.length_drop] at this
            omega
          refine ⟨⟨by simp, .inr ⟨b, o, c, ex, by rw [hln], ⟨by omega, h2⟩, .inr ⟨cs, rw', hg, by omega, by rw [Nat.mul_one, hln]; exact h⟩⟩⟩, by omega⟩
        · cases h
      · cases h
    · cases h
  · cases h

noncomputable def oMore (args : List AV) (M : Mem) : Option (AV × Mem) := match args with
  | [.val (.int .u32 s), x] => match sliceOf x M with
    | some cs => match unbs cs with
      | some l => cond (decide (0 ≤ s) && decide (s < 4294967296)) (some (.val (.int .u32 (more (BitVec.ofNat 32 s.toNat) l).toNat), M)) none
      | none => none
    | none => none
  | _ => none
theorem oMore_ok {args : List AV} {M : Mem} {x : AV} {M' : Mem} (h : oMore args M = some (x, M')) : CallA tb.P 259 args M fun y N => y = x ∧ N = M' := by
  unfold oMore at h
  split at h
  · rename_i s x0
    split at h
    · rename_i cs hcs
      split at h
      · rename_i l hl
        rw [cond_eq_ite] at h
        split at h
        · rename_i hs
          simp only [Bool.and_eq_true, decide_eq_true_eq] at hs
          simp only [Option.some.injEq, Prod.mk.injEq] at h
          obtain ⟨rfl, rfl⟩ := h
          rw [unbs_ok hl] at hcs
          have hb := sliceOf_ok hcs
          have hst : ((BitVec.ofNat 32 s.toNat).toNat : Int) = s := by
            rw [BitVec.toNat_ofNat, Nat.mod_eq_of_lt (by omega)]
            omega
          have := crc_more M (BitVec.ofNat 32 s.toNat) x0 l hb.1 (by omega)
          rw [hst] at this
          exact this
        · cases h
      · cases h
    · cases h
  · cases h

def all255 : List AV → Bool
  | [] => true
  | .val (.int .u8 z) :: r => decide (z = 255) && all255 r
  | _ => false
theorem all255_ok : ∀ {xs : List AV}, all255 xs = true → xs = bvs (List.replicate xs.length 255#8)
  | [], _ => rfl
  | x :: r, h => by
    unfold all255 at h
    split at h
    · rename_i h1; cases h1
    · rename_i z r' h1
      injection h1 with h1 h2
      subst h1 h2
      simp only [Bool.and_eq_true, decide_eq_true_eq] at h
      rw [h.1]
      have := all255_ok h.2
      show _ = bv8 255#8 :: bvs (List.replicate r.length 255#8)
      rw [← this]
      rfl
    · cases h
noncomputable def oBlank (args : List AV) (M : Mem) : Option (AV × Mem) := match args with
  | [x, .fn f [] []] => cond (Nat.beq f 203) (match sliceOf x M with
    | some cs => cond (all255 cs) (some (i64 (-1), M)) none
    | none => none) none
  | _ => none
theorem oBlank_ok {args : List AV} {M : Mem} {x : AV} {M' : Mem} (h : oBlank args M = some (x, M')) : CallA tb.P 258 args M fun y N => y = x ∧ N = M' := by
  unfold oBlank at h
  split at h
  · rename_i x0 f
    rw [cond_eq_ite] at h
    split at h
    · rename_i hf
      have hf : f = 203 := by simpa using hf
      subst hf
      split at h
      · rename_i cs hcs
        rw [cond_eq_ite] at h
        split at h
        · rename_i ha
          simp only [Option.some.injEq, Prod.mk.injEq] at h
          obtain ⟨rfl, rfl⟩ := h
          rw [all255_ok ha] at hcs
          have hb := sliceOf_ok hcs
          refine (t_index M x0 _ hb.1 (by omega)).mono ?_
          rintro y N ⟨rfl, ⟨i, rfl, hi, hne⟩ | ⟨rfl, _⟩⟩
          · exact absurd (by simp) hne
          · exact ⟨rfl, rfl⟩
        · cases h
      · cases h
    · cases h
  · cases h

noncomputable def orcSorted (args : List AV) (M : Mem) : Option (AV × Mem) :=
  match orcKeys 145 args M with
  | some r => some r
  | none => match orcKeys 158 args M with
  | some r => some r
  | none => orcKeys 232 args M
theorem orcSorted_ok {args : List AV} {M : Mem} {x : AV} {M' : Mem} (h : orcSorted args M = some (x, M')) : CallA tb.P 77 args M fun y N => y = x ∧ N = M' := by
  unfold orcSorted at h
  split at h
  · rename_i r hr
    injection h with h; subst h
    exact orcKeys78_ok hr
  split at h
  · rename_i r hr
    injection h with h; subst h
    exact orcKeys94_ok hr
  exact orcKeys166_ok h

noncomputable def orcX : OrcP := fun g args M =>
  cond (Nat.beq g 73) (oMay args M) ( cond (Nat.beq g 70) (oRaw args M) ( cond (Nat.beq g 72) (oNumber args M) ( cond (Nat.beq g 40) (oNext args M) ( cond (Nat.beq g 259) (oMore args M) ( cond (Nat.beq g 258) (oBlank args M) ( cond (Nat.beq g 77) (orcSorted args M) (none)))))))
theorem orcX_ok : OrcPOk tb orcX := by
  intro g args M x M' h
  unfold orcX at h
  simp only [cond_eq_ite, Nat.beq_eq] at h
  split at h
  · rename_i hg; subst hg; exact oMay_ok h
  split at h
  · rename_i hg; subst hg; exact oRaw_ok h
  split at h
  · rename_i hg; subst hg; exact oNumber_ok h
  split at h
  · rename_i hg; subst hg; exact oNext_ok h
  split at h
  · rename_i hg; subst hg; exact oMore_ok h
  split at h
  · rename_i hg; subst hg; exact oBlank_ok h
  split at h
  · rename_i hg; subst hg; exact orcSorted_ok h
  · cases h

end Go.Proofs.YtgoehfelpekhcaaGreatDoor

/- Which functions go over maps. -/
set_option maxRecDepth 100000
namespace Go.Proofs.YtgoehfelpekhcaaGreatDoor
open Go.AM

def mlF : FuncId → Bool := fun g => Nat.beq g 29 || (Nat.beq g 31 || (Nat.beq g 44 || (Nat.beq g 105 || Nat.beq g 112)))

end Go.Proofs.YtgoehfelpekhcaaGreatDoor
