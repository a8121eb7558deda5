/- The symbolic values of the evaluator, what they denote in a world, and that this is stable where the world grows or owned blocks change. -/
import Derived.RangeFuncLeaves
import Derived.Laws.Cells
import Derived.Laws.Rows
import Derived.Laws.Tables
import Derived.KernelRfl
set_option linter.all false
namespace Go.SE
open Go

mutual
/-- A symbolic value: its shape is closed, its leaves are terms. -/
inductive SV where
  | any
  | bool (b : Bool)
  | int (n : Int)
  | b8 (x : BitVec 8)
  | b16 (x : BitVec 16)
  | b32 (x : BitVec 32)
  | b64 (x : BitVec 64)
  | str (s : List (BitVec 8))
  | nilp
  | nilf
  | nils
  | ptr (id base : Nat)
  | ptri (id base idx : Nat)
  | ip (o : List Seg) (base : Nat)
  | ipi (o : List Seg) (base idx : Nat)
  | os (id es len : Nat)
  | osub (id es off len : Nat)
  | sl (es len : Nat) (g : Seg)
  | fn (f : Nat) (first caps : List SV)
  | yv (L : Nat)
  | agg (o : List Seg)
  | tup (vs : List SV)
/-- A part of a block. -/
inductive Seg where
  | one (v : SV)
  | ints (n : Nat) (xs : List Int)
  | b8s (n : Nat) (xs : List (BitVec 8))
  | b32s (n : Nat) (xs : List (BitVec 32))
  | rows (n : Nat) (xss : List (List (BitVec 8)))
  | spare
end

instance : Inhabited SV := ⟨.any⟩
instance : Inhabited Seg := ⟨.spare⟩

def mkStr (s : List (BitVec 8)) : ByteArray := ⟨(s.map fun x => UInt8.ofBitVec x).toArray⟩
def vInt (n : Int) : Value := .int .i64 n
def v8 (x : BitVec 8) : Value := .int .u8 (x.toNat : Int)
def v16 (x : BitVec 16) : Value := .int .u16 (x.toNat : Int)
def v32 (x : BitVec 32) : Value := .int .u32 (x.toNat : Int)
def v64 (x : BitVec 64) : Value := .int .u64 (x.toNat : Int)
def undefV : Value := .tuple #[]

/-- `l` lies in the row `cs` from `off` on. -/
def liesAt (cs : Array Value) (off : Nat) (l : List Value) : Prop := (cs.toList.drop off).take l.length = l

mutual
/-- What a symbolic value without owned blocks denotes in a world in which the blocks of `own` may change. -/
inductive Den0 (w : World) (own : Nat → Prop) : SV → Value → Prop
  | any (v : Value) : Den0 w own .any v
  | bool (b : Bool) : Den0 w own (.bool b) (.bool b)
  | int (n : Int) : Den0 w own (.int n) (vInt n)
  | b8 (x : BitVec 8) : Den0 w own (.b8 x) (v8 x)
  | b16 (x : BitVec 16) : Den0 w own (.b16 x) (v16 x)
  | b32 (x : BitVec 32) : Den0 w own (.b32 x) (v32 x)
  | b64 (x : BitVec 64) : Den0 w own (.b64 x) (v64 x)
  | str (s : List (BitVec 8)) : Den0 w own (.str s) (.string (mkStr s))
  | nilp : Den0 w own .nilp (.pointer none)
  | nilf : Den0 w own .nilf .nilFunc
  | nils : Den0 w own .nils (.slice none 0 0)
  | ip {o : List Seg} {base b off : Nat} {cs : Array Value} {elem : TypeId} {fr : Nat × Nat} {l : List Value}
      (hb : w.heap[b]? = some (.cells cs elem fr)) (ho : ¬ own b) (hl : DenS0 w own o l) (hp : liesAt cs off l) :
      Den0 w own (.ip o base) (.pointer (some ⟨b, off + base, none⟩))
  | ipi {o : List Seg} {base idx b off : Nat} {cs : Array Value} {elem : TypeId} {fr : Nat × Nat} {l : List Value}
      (hb : w.heap[b]? = some (.cells cs elem fr)) (ho : ¬ own b) (hl : DenS0 w own o l) (hp : liesAt cs off l) :
      Den0 w own (.ipi o base idx) (.pointer (some ⟨b, off + (base + idx), none⟩))
  | sl {es len cap : Nat} {g : Seg} {a : Option Addr} {l : List Value} (hl : DenS0 w own [g] l) (hn : l.length = len * es) (hc : len ≤ cap)
      (hp : l = [] ∨ ∃ b off cs elem fr, a = some ⟨b, off, none⟩ ∧ w.heap[b]? = some (.cells cs elem fr) ∧ ¬ own b ∧ liesAt cs off l) :
      Den0 w own (.sl es len g) (.slice a len cap)
  | fn {f : Nat} {first caps : List SV} {v1 v2 : List Value} (h1 : Den0L w own first v1) (h2 : Den0L w own caps v2) :
      Den0 w own (.fn f first caps) (.func (.func f) v1.toArray v2.toArray)
  | agg {o : List Seg} {l : List Value} (h : DenS0 w own o l) : Den0 w own (.agg o) (.agg l.toArray)
/-- The same of the parts of a block. -/
inductive DenS0 (w : World) (own : Nat → Prop) : List Seg → List Value → Prop
  | nil : DenS0 w own [] []
  | one {v : SV} {x : Value} {r : List Seg} {l : List Value} (h : Den0 w own v x) (h1 : x.oneCell' = true) (hr : DenS0 w own r l) : DenS0 w own (.one v :: r) (x :: l)
  | ints {n : Nat} {xs : List Int} {r : List Seg} {l : List Value} (hn : xs.length = n) (hr : DenS0 w own r l) : DenS0 w own (.ints n xs :: r) (xs.map vInt ++ l)
  | b8s {n : Nat} {xs : List (BitVec 8)} {r : List Seg} {l : List Value} (hn : xs.length = n) (hr : DenS0 w own r l) : DenS0 w own (.b8s n xs :: r) (xs.map v8 ++ l)
  | b32s {n : Nat} {xs : List (BitVec 32)} {r : List Seg} {l : List Value} (hn : xs.length = n) (hr : DenS0 w own r l) : DenS0 w own (.b32s n xs :: r) (xs.map v32 ++ l)
  | rows {n : Nat} {xss : List (List (BitVec 8))} {vs : List Value} {r : List Seg} {l : List Value} (hn : xss.length = n) (h : DenR w own xss vs) (hr : DenS0 w own r l) :
      DenS0 w own (.rows n xss :: r) (vs ++ l)
  | spare {l : List Value} (h : ∀ x ∈ l, x.oneCell' = true) : DenS0 w own [.spare] l
/-- A list of slices of bytes. -/
inductive DenR (w : World) (own : Nat → Prop) : List (List (BitVec 8)) → List Value → Prop
  | nil : DenR w own [] []
  | cons {xs : List (BitVec 8)} {r : List (List (BitVec 8))} {x : Value} {l : List Value} (h : Den0 w own (.sl 1 xs.length (.b8s xs.length xs)) x) (hr : DenR w own r l) : DenR w own (xs :: r) (x :: l)
inductive Den0L (w : World) (own : Nat → Prop) : List SV → List Value → Prop
  | nil : Den0L w own [] []
  | cons {v : SV} {x : Value} {r : List SV} {l : List Value} (h : Den0 w own v x) (hr : Den0L w own r l) : Den0L w own (v :: r) (x :: l)
end

/-- What is no owned block stays as it is and does not become owned. -/
def Stab (w : World) (own : Nat → Prop) (w' : World) (own' : Nat → Prop) : Prop :=
  ∀ b o, w.heap[b]? = some o → ¬ own b → w'.heap[b]? = some o ∧ ¬ own' b

section
variable {w w' : World} {own own' : Nat → Prop}
mutual
theorem Den0.stab (h : Stab w own w' own') : ∀ {sv : SV} {v : Value}, Den0 w own sv v → Den0 w' own' sv v
  | _, _, .any v => .any v
  | _, _, .bool b => .bool b
  | _, _, .int n => .int n
  | _, _, .b8 x => .b8 x
  | _, _, .b16 x => .b16 x
  | _, _, .b32 x => .b32 x
  | _, _, .b64 x => .b64 x
  | _, _, .str s => .str s
  | _, _, .nilp => .nilp
  | _, _, .nilf => .nilf
  | _, _, .nils => .nils
  | _, _, .ip hb ho hl hp => .ip (h _ _ hb ho).1 (h _ _ hb ho).2 (DenS0.stab h hl) hp
  | _, _, .ipi hb ho hl hp => .ipi (h _ _ hb ho).1 (h _ _ hb ho).2 (DenS0.stab h hl) hp
  | _, _, .sl hl hn hc hp => .sl (DenS0.stab h hl) hn hc (hp.imp id fun ⟨b, off, cs, elem, fr, ha, hb, ho, hl⟩ => ⟨b, off, cs, elem, fr, ha, (h _ _ hb ho).1, (h _ _ hb ho).2, hl⟩)
  | _, _, .fn h1 h2 => .fn (Den0L.stab h h1) (Den0L.stab h h2)
  | _, _, .agg hs => .agg (DenS0.stab h hs)
theorem DenS0.stab (h : Stab w own w' own') : ∀ {o : List Seg} {l : List Value}, DenS0 w own o l → DenS0 w' own' o l
  | _, _, .nil => .nil
  | _, _, .one hv h1 hr => .one (Den0.stab h hv) h1 (DenS0.stab h hr)
  | _, _, .ints hn hr => .ints hn (DenS0.stab h hr)
  | _, _, .b8s hn hr => .b8s hn (DenS0.stab h hr)
  | _, _, .b32s hn hr => .b32s hn (DenS0.stab h hr)
  | _, _, .rows hn hv hr => .rows hn (DenR.stab h hv) (DenS0.stab h hr)
  | _, _, .spare hl => .spare hl
theorem DenR.stab (h : Stab w own w' own') : ∀ {o : List (List (BitVec 8))} {l : List Value}, DenR w own o l → DenR w' own' o l
  | _, _, .nil => .nil
  | _, _, .cons hv hr => .cons (Den0.stab h hv) (DenR.stab h hr)
theorem Den0L.stab (h : Stab w own w' own') : ∀ {o : List SV} {l : List Value}, Den0L w own o l → Den0L w' own' o l
  | _, _, .nil => .nil
  | _, _, .cons hv hr => .cons (Den0.stab h hv) (Den0L.stab h hr)
end
end

/-- The owned blocks by name: the number and the size. -/
abbrev Rho := Nat → Option (Nat × Nat)
/-- The loops' records by name. -/
abbrev Lam := Nat → Option Nat

mutual
/-- What a symbolic value denotes. -/
inductive Den (w : World) (own : Nat → Prop) (ρ : Rho) (lh : Lam) : SV → Value → Prop
  | im {sv : SV} {v : Value} (h : Den0 w own sv v) : Den w own ρ lh sv v
  | ptr {id base b sz : Nat} (h : ρ id = some (b, sz)) : Den w own ρ lh (.ptr id base) (.pointer (some ⟨b, base, none⟩))
  | ptri {id base idx b sz : Nat} (h : ρ id = some (b, sz)) : Den w own ρ lh (.ptri id base idx) (.pointer (some ⟨b, base + idx, none⟩))
  | os {id es len cap b sz : Nat} (h : ρ id = some (b, sz)) (hc : len ≤ cap) (hz : cap * es ≤ sz) : Den w own ρ lh (.os id es len) (.slice (some ⟨b, 0, none⟩) len cap)
  | osn {id es b sz : Nat} (h : ρ id = some (b, sz)) : Den w own ρ lh (.os id es 0) (.slice none 0 0)
  | osub {id es off len cap b sz : Nat} (h : ρ id = some (b, sz)) (hc : len ≤ cap) (hz : off + cap * es ≤ sz) : Den w own ρ lh (.osub id es off len) (.slice (some ⟨b, off, none⟩) len cap)
  | osubn {id es off b sz : Nat} (h : ρ id = some (b, sz)) : Den w own ρ lh (.osub id es off 0) (.slice none 0 0)
  | osubz {id es off b sz o : Nat} (h : ρ id = some (b, sz)) : Den w own ρ lh (.osub id es off 0) (.slice (some ⟨b, o, none⟩) 0 0)
  | fn {f : Nat} {first caps : List SV} {v1 v2 : List Value} (h1 : DenL w own ρ lh first v1) (h2 : DenL w own ρ lh caps v2) :
      Den w own ρ lh (.fn f first caps) (.func (.func f) v1.toArray v2.toArray)
  | yv {L l : Nat} (h : lh L = some l) : Den w own ρ lh (.yv L) (.func (.yield l) #[] #[])
  | agg {o : List Seg} {l : List Value} (h : DenS w own ρ lh o l) : Den w own ρ lh (.agg o) (.agg l.toArray)
  | tup {vs : List SV} {l : List Value} (h : DenL w own ρ lh vs l) : Den w own ρ lh (.tup vs) (.tuple l.toArray)
/-- The parts of a block. -/
inductive DenS (w : World) (own : Nat → Prop) (ρ : Rho) (lh : Lam) : List Seg → List Value → Prop
  | nil : DenS w own ρ lh [] []
  | one {v : SV} {x : Value} {r : List Seg} {l : List Value} (h : Den w own ρ lh v x) (h1 : x.oneCell' = true) (hr : DenS w own ρ lh r l) : DenS w own ρ lh (.one v :: r) (x :: l)
  | seg {g : Seg} {r : List Seg} {l1 l : List Value} (hg : DenS0 w own [g] l1) (hr : DenS w own ρ lh r l) : DenS w own ρ lh (g :: r) (l1 ++ l)
inductive DenL (w : World) (own : Nat → Prop) (ρ : Rho) (lh : Lam) : List SV → List Value → Prop
  | nil : DenL w own ρ lh [] []
  | cons {v : SV} {x : Value} {r : List SV} {l : List Value} (h : Den w own ρ lh v x) (hr : DenL w own ρ lh r l) : DenL w own ρ lh (v :: r) (x :: l)
end

/-- Names keep what they name. -/
def Le {α : Type} (f g : Nat → Option α) : Prop := ∀ n a, f n = some a → g n = some a
theorem Le.refl {α : Type} (f : Nat → Option α) : Le f f := fun _ _ h => h
theorem Le.trans {α : Type} {f g k : Nat → Option α} (h : Le f g) (h' : Le g k) : Le f k := fun n a e => h' n a (h n a e)

section
variable {w w' : World} {own own' : Nat → Prop} {ρ ρ' : Rho} {lh lh' : Lam}
mutual
theorem Den.stab (h : Stab w own w' own') (hρ : Le ρ ρ') (hl : Le lh lh') : ∀ {sv : SV} {v : Value}, Den w own ρ lh sv v → Den w' own' ρ' lh' sv v
  | _, _, .im h0 => .im (h0.stab h)
  | _, _, .ptr e => .ptr (hρ _ _ e)
  | _, _, .ptri e => .ptri (hρ _ _ e)
  | _, _, .os e hc hz => .os (hρ _ _ e) hc hz
  | _, _, .osn e => .osn (hρ _ _ e)
  | _, _, .osub e hc hz => .osub (hρ _ _ e) hc hz
  | _, _, .osubn e => .osubn (hρ _ _ e)
  | _, _, .osubz e => .osubz (hρ _ _ e)
  | _, _, .fn h1 h2 => .fn (DenL.stab h hρ hl h1) (DenL.stab h hρ hl h2)
  | _, _, .yv e => .yv (hl _ _ e)
  | _, _, .agg hs => .agg (DenS.stab h hρ hl hs)
  | _, _, .tup hs => .tup (DenL.stab h hρ hl hs)
theorem DenS.stab (h : Stab w own w' own') (hρ : Le ρ ρ') (hl : Le lh lh') : ∀ {o : List Seg} {l : List Value}, DenS w own ρ lh o l → DenS w' own' ρ' lh' o l
  | _, _, .nil => .nil
  | _, _, .one hv h1 hr => .one (Den.stab h hρ hl hv) h1 (DenS.stab h hρ hl hr)
  | _, _, .seg hg hr => .seg (hg.stab h) (DenS.stab h hρ hl hr)
theorem DenL.stab (h : Stab w own w' own') (hρ : Le ρ ρ') (hl : Le lh lh') : ∀ {o : List SV} {l : List Value}, DenL w own ρ lh o l → DenL w' own' ρ' lh' o l
  | _, _, .nil => .nil
  | _, _, .cons hv hr => .cons (Den.stab h hρ hl hv) (DenL.stab h hρ hl hr)
end
end
end Go.SE
/- The symbolic state, what it says of a frame and a world, and how both go on. -/
namespace Go.SE
open Go

/-- A loop over a function that is under way: what its record holds. -/
structure Hd where
  tmps : List SV
  params : Array Tmp
  assign : Code
  body : Code
  lim : Nat
  st : LoopState
  pend : Option Code

/-- The symbolic state: temporaries, owned blocks by name, loops under way by name. -/
structure St where
  tmps : List SV
  heap : List (Nat × List Seg)
  next : Nat
  hs : List (Nat × Hd)
  nh : Nat

def look {α : Type} : List (Nat × α) → Nat → Option α
  | [], _ => none
  | (k, a) :: r, n => if k = n then some a else look r n

def St.blk (s : St) (id : Nat) : Option (List Seg) := look s.heap id
def St.hd (s : St) (L : Nat) : Option Hd := look s.hs L

/-- The blocks that the state owns. -/
def Mine (s : St) (ρ : Rho) (lh : Lam) (b : Nat) : Prop :=
  (∃ id segs sz, s.blk id = some segs ∧ ρ id = some (b, sz) ∧ sz ≠ 0) ∨ ∃ L h, s.hd L = some h ∧ lh L = some b
/-- These, and those that others own. -/
def Own (X : Nat → Prop) (s : St) (ρ : Rho) (lh : Lam) (b : Nat) : Prop := X b ∨ Mine s ρ lh b

/-- What an owned block holds. -/
def Holds (w : World) (own : Nat → Prop) (ρ : Rho) (lh : Lam) (id : Nat) (segs : List Seg) : Prop :=
  ∃ b sz, ρ id = some (b, sz) ∧ ∃ l, DenS w own ρ lh segs l ∧ l.length = sz ∧
    (sz ≠ 0 → ∃ cs elem, w.heap[b]? = some (.cells cs elem (0, 0)) ∧ cs.toList = l)

/-- The names below a number alone. -/
def cutR (n : Nat) (ρ : Rho) : Rho := fun id => if id < n then ρ id else none
theorem cutR_le (n : Nat) (ρ : Rho) : Le (cutR n ρ) ρ := fun id a h => by
  unfold cutR at h
  split at h
  · exact h
  · cases h
theorem cutR_mono (n : Nat) {ρ ρ' : Rho} (h : Le ρ ρ') : Le (cutR n ρ) (cutR n ρ') := fun id a e => by
  unfold cutR at *
  split at e
  · rename_i hl; rw [if_pos hl]; exact h _ _ e
  · cases e
/-- What the record of a loop holds. -/
def HoldsHd (w : World) (own : Nat → Prop) (ρ : Rho) (lh : Lam) (L : Nat) (h : Hd) : Prop :=
  ∃ l r, lh L = some l ∧ w.heap[l]? = some (.loop r) ∧ r.state = h.st ∧ r.pending = h.pend ∧ r.params = h.params ∧ r.assign = h.assign ∧ r.body = h.body ∧
    r.tmps.size = h.tmps.length ∧ ∀ t sv, h.tmps[t]? = some sv → Den w own (cutR h.lim ρ) lh sv (r.tmps.getD t undef)

/-- The world is as the state says. -/
structure SatH (X : Nat → Prop) (G : List (Nat × SV)) (s : St) (ρ : Rho) (lh : Lam) (w : World) : Prop where
  blk : ∀ id segs, s.blk id = some segs → Holds w (Own X s ρ lh) ρ lh id segs
  inj : ∀ id id' segs segs' b sz sz', s.blk id = some segs → s.blk id' = some segs' → ρ id = some (b, sz) → ρ id' = some (b, sz') → sz ≠ 0 → sz' ≠ 0 → id = id'
  foreign : ∀ b, Mine s ρ lh b → ¬ X b
  nxt : ∀ id r, ρ id = some r → id < s.next
  hd : ∀ L h, s.hd L = some h → HoldsHd w (Own X s ρ lh) ρ lh L h
  hinj : ∀ L L' h h' l, s.hd L = some h → s.hd L' = some h' → lh L = some l → lh L' = some l → L = L'
  hnxt : ∀ L l, lh L = some l → L < s.nh
  glob : ∀ g sv, (g, sv) ∈ G → Den0 w (Own X s ρ lh) sv (.pointer (some ⟨g, 0, none⟩))
  xlt : ∀ b, X b → b < w.heap.size

/-- The frame is as the state says. -/
structure SatT (X : Nat → Prop) (s : St) (ρ : Rho) (lh : Lam) (a : Act) (w : World) : Prop where
  size : a.tmps.size = s.tmps.length
  tmp : ∀ t sv, s.tmps[t]? = some sv → Den w (Own X s ρ lh) ρ lh sv (a.tmps.getD t undef)
  marks : ∃ ms : List Nat, a.defers = ms.map (fun r => { target := .collected r, args := #[] }) ∧ ms.Nodup ∧ ∀ r ∈ ms, w.heap[r]? = some (.deferred (some [])) ∧ ¬ Own X s ρ lh r

structure Sat (X : Nat → Prop) (G : List (Nat × SV)) (s : St) (ρ : Rho) (lh : Lam) (a : Act) (w : World) : Prop where
  H : SatH X G s ρ lh w
  T : SatT X s ρ lh a w

/-- How a world and its names go on: what was not owned is as it was; what is owned now was owned or is new; the names below N and M stay. -/
structure Ev (N M : Nat) (mine mine' : Nat → Prop) (ρ ρ' : Rho) (lh lh' : Lam) (w w' : World) : Prop where
  size : w.heap.size ≤ w'.heap.size
  keep : ∀ b o, w.heap[b]? = some o → ¬ mine b → w'.heap[b]? = some o
  own : ∀ b, mine' b → mine b ∨ w.heap.size ≤ b
  rho : ∀ id, id < N → ∀ r, ρ id = some r → ρ' id = some r
  lam : ∀ L, L < M → ∀ l, lh L = some l → lh' L = some l
  out : w'.os = w.os ∧ w'.output = w.output

theorem Ev.refl (N M : Nat) (mine : Nat → Prop) (ρ : Rho) (lh : Lam) (w : World) : Ev N M mine mine ρ ρ lh lh w w :=
  ⟨Nat.le_refl _, fun _ _ h _ => h, fun _ h => .inl h, fun _ _ _ h => h, fun _ _ _ h => h, rfl, rfl⟩

theorem lt_of_heap {w : World} {b : Nat} {o : Obj} (h : w.heap[b]? = some o) : b < w.heap.size := (Array.getElem?_eq_some_iff.1 h).1

theorem Ev.trans {N M N' M' : Nat} {m m1 m2 : Nat → Prop} {ρ ρ1 ρ2 : Rho} {lh lh1 lh2 : Lam} {w w1 w2 : World} (h : Ev N M m m1 ρ ρ1 lh lh1 w w1) (h' : Ev N' M' m1 m2 ρ1 ρ2 lh1 lh2 w1 w2)
    (hN : N ≤ N') (hM : M ≤ M') : Ev N M m m2 ρ ρ2 lh lh2 w w2 where
  size := Nat.le_trans h.size h'.size
  keep b o hb hm := h'.keep b o (h.keep b o hb hm) fun hm1 => (h.own b hm1).elim hm fun hlt => by have := lt_of_heap hb; omega
  own b hb := (h'.own b hb).elim (h.own b) fun hlt => .inr (Nat.le_trans h.size hlt)
  rho id hid r hr := h'.rho id (by omega) r (h.rho id hid r hr)
  lam L hL l hl := h'.lam L (by omega) l (h.lam L hL l hl)
  out := ⟨h'.out.1.trans h.out.1, h'.out.2.trans h.out.2⟩

theorem Ev.le {N M N' M' : Nat} {m m1 : Nat → Prop} {ρ ρ1 : Rho} {lh lh1 : Lam} {w w1 : World} (h : Ev N M m m1 ρ ρ1 lh lh1 w w1) (hN : N' ≤ N) (hM : M' ≤ M) : Ev N' M' m m1 ρ ρ1 lh lh1 w w1 :=
  ⟨h.size, h.keep, h.own, fun id hid => h.rho id (by omega), fun L hL => h.lam L (by omega), h.out⟩

/-- What others own, and what is not owned, is stable. -/
theorem Ev.stab {N M : Nat} {X : Nat → Prop} {s s' : St} {ρ ρ' : Rho} {lh lh' : Lam} {w w' : World} (h : Ev N M (Mine s ρ lh) (Mine s' ρ' lh') ρ ρ' lh lh' w w') :
    Stab w (Own X s ρ lh) w' (Own X s' ρ' lh') := fun b o hb hn =>
  ⟨h.keep b o hb fun hm => hn (.inr hm), fun ho => hn (ho.elim .inl fun hm => .inr ((h.own b hm).resolve_right (by have := lt_of_heap hb; omega)))⟩

/-- A state goes on to a state. -/
abbrev Goes (N M : Nat) (s s' : St) (ρ ρ' : Rho) (lh lh' : Lam) (w w' : World) : Prop := Ev N M (Mine s ρ lh) (Mine s' ρ' lh') ρ ρ' lh lh' w w'

theorem SatH.full {X : Nat → Prop} {G : List (Nat × SV)} {s s' : St} {ρ ρ' : Rho} {lh lh' : Lam} {w w' : World} {N M : Nat} (h : SatH X G s ρ lh w) (e : Goes N M s s' ρ ρ' lh lh' w w') (hN : s.next ≤ N) (hM : s.nh ≤ M) :
    Le ρ ρ' ∧ Le lh lh' :=
  ⟨fun id r hr => e.rho id (by have := h.nxt id r hr; omega) r hr, fun L l hl => e.lam L (by have := h.hnxt L l hl; omega) l hl⟩

theorem look_cons {α : Type} (k n : Nat) (x : α) (r : List (Nat × α)) : look ((k, x) :: r) n = if k = n then some x else look r n := rfl

end Go.SE
/- How the symbolic state follows a step of the world: a value put, a name dropped, a block made, a block written. -/
namespace Go.SE
open Go

theorem St.blk_def (s : St) (id : Nat) : s.blk id = look s.heap id := rfl
theorem St.hd_def (s : St) (L : Nat) : s.hd L = look s.hs L := rfl

def St.setTmp (s : St) (d : Option Tmp) (v : SV) : St := match d with
  | some d => { s with tmps := s.tmps.set d v }
  | none => s
def eraseId {α : Type} : List (Nat × α) → Nat → List (Nat × α)
  | [], _ => []
  | (k, x) :: r, n => if k = n then eraseId r n else (k, x) :: eraseId r n
theorem look_erase {α : Type} (l : List (Nat × α)) (n m : Nat) : look (eraseId l n) m = if m = n then none else look l m := by
  induction l with
  | nil => simp [eraseId, look]
  | cons p r ih =>
    obtain ⟨k, x⟩ := p
    simp only [eraseId]
    by_cases hk : k = n
    · simp only [hk, if_true, ih, look]
      by_cases hm : m = n
      · simp [hm]
      · simp [hm, Ne.symm hm]
    · simp only [hk, if_false, look, ih]
      by_cases hkm : k = m
      · subst hkm; simp [hk]
      · simp [hkm]
def St.drop (s : St) (id : Nat) : St := { s with heap := eraseId s.heap id }
def St.setBlk (s : St) (id : Nat) (g : List Seg) : St := { s with heap := (id, g) :: eraseId s.heap id }
@[simp] theorem St.blk_drop (s : St) (id n : Nat) : (s.drop id).blk n = if n = id then none else s.blk n := look_erase _ _ _
@[simp] theorem St.blk_setBlk (s : St) (id n : Nat) (g : List Seg) : (s.setBlk id g).blk n = if n = id then some g else s.blk n := by
  show look ((id, g) :: eraseId s.heap id) n = _
  rw [look_cons, look_erase]
  by_cases h : n = id
  · simp [h]
  · simp [h, Ne.symm h, St.blk]
@[simp] theorem St.blk_setTmp (s : St) (d : Option Tmp) (v : SV) (n : Nat) : (s.setTmp d v).blk n = s.blk n := by cases d <;> rfl
@[simp] theorem St.hd_setTmp (s : St) (d : Option Tmp) (v : SV) (n : Nat) : (s.setTmp d v).hd n = s.hd n := by cases d <;> rfl
@[simp] theorem St.hd_drop (s : St) (id n : Nat) : (s.drop id).hd n = s.hd n := rfl
@[simp] theorem St.hd_setBlk (s : St) (id n : Nat) (g : List Seg) : (s.setBlk id g).hd n = s.hd n := rfl
@[simp] theorem St.next_setTmp (s : St) (d : Option Tmp) (v : SV) : (s.setTmp d v).next = s.next := by cases d <;> rfl
@[simp] theorem St.nh_setTmp (s : St) (d : Option Tmp) (v : SV) : (s.setTmp d v).nh = s.nh := by cases d <;> rfl

theorem Mine_congr {s s' : St} (hb : ∀ id, s'.blk id = s.blk id) (hh : ∀ L, s'.hd L = s.hd L) (ρ : Rho) (lh : Lam) : Mine s' ρ lh = Mine s ρ lh := by
  funext b; simp only [Mine, hb, hh]
theorem Own_congr {s s' : St} (X : Nat → Prop) (hb : ∀ id, s'.blk id = s.blk id) (hh : ∀ L, s'.hd L = s.hd L) (ρ : Rho) (lh : Lam) : Own X s' ρ lh = Own X s ρ lh := by
  funext b; simp only [Own, Mine_congr hb hh]

section
variable {X : Nat → Prop} {G : List (Nat × SV)} {s s' : St} {ρ ρ' : Rho} {lh lh' : Lam} {a a' : Act} {w w' : World}

/-- The heap's part does not look at the temporaries. -/
theorem SatH.congr (h : SatH X G s ρ lh w) (hb : ∀ id, s'.blk id = s.blk id) (hh : ∀ L, s'.hd L = s.hd L) (hn : s.next ≤ s'.next) (hm : s.nh ≤ s'.nh) : SatH X G s' ρ lh w := by
  have ho := Own_congr X hb hh ρ lh
  have hmi := Mine_congr hb hh ρ lh
  exact
  { blk := fun id segs e => by rw [ho]; exact h.blk id segs (by rw [← hb]; exact e)
    inj := fun id id' segs segs' b sz sz' e e' => h.inj id id' segs segs' b sz sz' (by rw [← hb]; exact e) (by rw [← hb]; exact e')
    foreign := fun b hb' => h.foreign b (by rw [← hmi]; exact hb')
    nxt := fun id r e => by have := h.nxt id r e; omega
    hd := fun L x e => by rw [ho]; exact h.hd L x (by rw [← hh]; exact e)
    hinj := fun L L' x x' l e e' => h.hinj L L' x x' l (by rw [← hh]; exact e) (by rw [← hh]; exact e')
    hnxt := fun L l e => by have := h.hnxt L l e; omega
    glob := fun g sv e => by rw [ho]; exact h.glob g sv e
    xlt := h.xlt }

/-- A value is put. -/
theorem SatT.put (h : SatT X s ρ lh a w) (d : Option Tmp) {sv : SV} {v : Value} (hv : Den w (Own X s ρ lh) ρ lh sv v) : SatT X (s.setTmp d sv) ρ lh (a.put d v) w := by
  have ho := Own_congr (s := s) (s' := s.setTmp d sv) X (by simp) (by simp) ρ lh
  cases d with
  | none => exact h
  | some d =>
    refine ⟨?_, ?_, ?_⟩
    · simp [Act.put, St.setTmp, h.size]
    · intro t sv' ht
      rw [ho]
      simp only [St.setTmp, List.getElem?_set] at ht
      simp only [Act.put, Array.getD_eq_getD_getElem?, Array.getElem?_setIfInBounds]
      by_cases hd : d = t
      · subst hd
        simp only [if_true] at ht ⊢
        by_cases hl : d < s.tmps.length
        · simp only [hl, if_true, Option.some.injEq] at ht
          subst ht
          simp [h.size, hl, hv]
        · simp [hl] at ht
      · simp only [hd, if_false] at ht ⊢
        have := h.tmp t sv' ht
        simpa using this
    · obtain ⟨ms, h1, h2, h3⟩ := h.marks
      exact ⟨ms, h1, h2, fun r hr => by rw [ho]; exact h3 r hr⟩

theorem SatT.stab (h : SatT X s ρ lh a w) (hst : Stab w (Own X s ρ lh) w' (Own X s' ρ' lh')) (hρ : Le ρ ρ') (hl : Le lh lh') (ht : s'.tmps = s.tmps) : SatT X s' ρ' lh' a w' where
  size := by rw [ht]; exact h.size
  tmp t sv e := (h.tmp t sv (by rw [← ht]; exact e)).stab hst hρ hl
  marks := let ⟨ms, h1, h2, h3⟩ := h.marks; ⟨ms, h1, h2, fun r hr => ⟨(hst _ _ (h3 r hr).1 (h3 r hr).2).1, (hst _ _ (h3 r hr).1 (h3 r hr).2).2⟩⟩

theorem Holds.stab {own own' : Nat → Prop} {id : Nat} {segs : List Seg} (h : Holds w own ρ lh id segs) (hst : Stab w own w' own') (hρ : Le ρ ρ') (hl : Le lh lh')
    (hk : ∀ b sz, ρ id = some (b, sz) → sz ≠ 0 → ∀ o, w.heap[b]? = some o → w'.heap[b]? = some o) : Holds w' own' ρ' lh' id segs := by
  obtain ⟨b, sz, e, l, hd, hz, hb⟩ := h
  exact ⟨b, sz, hρ _ _ e, l, hd.stab hst hρ hl, hz, fun h0 => let ⟨cs, elem, h1, h2⟩ := hb h0; ⟨cs, elem, hk b sz e h0 _ h1, h2⟩⟩

theorem HoldsHd.stab {own own' : Nat → Prop} {L : Nat} {h : Hd} (hh : HoldsHd w own ρ lh L h) (hst : Stab w own w' own') (hρ : Le ρ ρ') (hl : Le lh lh')
    (hk : ∀ l, lh L = some l → ∀ o, w.heap[l]? = some o → w'.heap[l]? = some o) : HoldsHd w' own' ρ' lh' L h := by
  obtain ⟨l, r, e, hb, h1, h2, h3, h4, h5, h6, h7⟩ := hh
  exact ⟨l, r, hl _ _ e, hk l e _ hb, h1, h2, h3, h4, h5, h6, fun t sv ht => (h7 t sv ht).stab hst (cutR_mono _ hρ) hl⟩

/-- The general step of the heap's part. -/
theorem SatH.step (h : SatH X G s ρ lh w) (e : Goes s.next s.nh s s' ρ ρ' lh lh' w w') (hh : ∀ L, s'.hd L = s.hd L)
    (hblk : ∀ id segs, s'.blk id = some segs → (s.blk id = some segs ∧ ∀ b sz, ρ id = some (b, sz) → sz ≠ 0 → ∀ o, w.heap[b]? = some o → w'.heap[b]? = some o) ∨ Holds w' (Own X s' ρ' lh') ρ' lh' id segs)
    (hinj : ∀ id id' segs segs' b sz sz', s'.blk id = some segs → s'.blk id' = some segs' → ρ' id = some (b, sz) → ρ' id' = some (b, sz') → sz ≠ 0 → sz' ≠ 0 → id = id')
    (hfor : ∀ b, Mine s' ρ' lh' b → ¬ X b) (hnxt : ∀ id r, ρ' id = some r → id < s'.next)
    (hloop : ∀ L x l, s.hd L = some x → lh L = some l → ∀ o, w.heap[l]? = some o → w'.heap[l]? = some o) (hlh : lh' = lh) (hnh : s.nh ≤ s'.nh) : SatH X G s' ρ' lh' w' := by
  subst hlh
  obtain ⟨hρ, hl⟩ := h.full e (Nat.le_refl _) (Nat.le_refl _)
  have hst := e.stab (X := X)
  exact
  { blk := fun id segs he => (hblk id segs he).elim (fun ⟨h0, hk⟩ => (h.blk id segs h0).stab hst hρ hl hk) (fun x => x)
    inj := hinj
    foreign := hfor
    nxt := hnxt
    hd := fun L x he => (h.hd L x (by rw [← hh]; exact he)).stab hst hρ hl (hloop L x · (by rw [← hh]; exact he))
    hinj := fun L L' x x' l he he' => h.hinj L L' x x' l (by rw [← hh]; exact he) (by rw [← hh]; exact he')
    hnxt := fun L l he => by have := h.hnxt L l he; omega
    glob := fun g sv hg => (h.glob g sv hg).stab hst
    xlt := fun b hb => Nat.lt_of_lt_of_le (h.xlt b hb) e.size }

/-- A name is dropped: its block is nobody's from now on. -/
theorem Goes.drop (id : Nat) : Goes s.next s.nh s (s.drop id) ρ ρ lh lh w w := by
  refine ⟨Nat.le_refl _, fun _ _ h _ => h, fun b hb => .inl ?_, fun _ _ _ h => h, fun _ _ _ h => h, rfl, rfl⟩
  rcases hb with ⟨i, segs, sz, h1, h2, h3⟩ | ⟨L, x, h1, h2⟩
  · simp only [St.blk_drop] at h1
    split at h1
    · cases h1
    · exact .inl ⟨i, segs, sz, h1, h2, h3⟩
  · exact .inr ⟨L, x, h1, h2⟩

theorem SatH.drop (h : SatH X G s ρ lh w) (id : Nat) : SatH X G (s.drop id) ρ lh w := by
  refine h.step (Goes.drop id) (by simp) ?_ ?_ ?_ h.nxt (fun _ _ _ _ _ _ hb => hb) rfl (Nat.le_refl _)
  · intro i segs he
    simp only [St.blk_drop] at he
    split at he
    · cases he
    · exact .inl ⟨he, fun _ _ _ _ _ hb => hb⟩
  · intro i i' segs segs' b sz sz' h1 h2
    simp only [St.blk_drop] at h1 h2
    split at h1
    · cases h1
    split at h2
    · cases h2
    exact h.inj i i' segs segs' b sz sz' h1 h2
  · intro b hb
    refine h.foreign b ?_
    rcases hb with ⟨i, segs, sz, h1, h2, h3⟩ | ⟨L, x, h1, h2⟩
    · simp only [St.blk_drop] at h1
      split at h1
      · cases h1
      · exact .inl ⟨i, segs, sz, h1, h2, h3⟩
    · exact .inr ⟨L, x, h1, h2⟩

def Rho.upd (ρ : Rho) (id : Nat) (r : Nat × Nat) : Rho := fun n => if n = id then some r else ρ n
theorem Rho.upd_same (ρ : Rho) (id : Nat) (r : Nat × Nat) : ρ.upd id r id = some r := if_pos rfl
theorem Rho.upd_other (ρ : Rho) {id n : Nat} (r : Nat × Nat) (h : n ≠ id) : ρ.upd id r n = ρ n := if_neg h
theorem Rho.le_upd {ρ : Rho} {id : Nat} (r : Nat × Nat) (h : ρ id = none) : Le ρ (ρ.upd id r) := fun n x e => by
  by_cases hn : n = id
  · subst hn; rw [h] at e; cases e
  · rw [Rho.upd_other _ _ hn, e]

theorem blk_none_of_rho (h : SatH X G s ρ lh w) {id : Nat} (hr : ρ id = none) : s.blk id = none := by
  cases e : s.blk id with
  | none => rfl
  | some segs => obtain ⟨b, sz, h1, _⟩ := h.blk id segs e; rw [hr] at h1; cases h1

theorem heap_alloc (w : World) (o : Obj) (b : Nat) : (w.alloc o).heap[b]? = if b = w.heap.size then some o else w.heap[b]? := by
  show (w.heap.push o)[b]? = _
  rw [Array.getElem?_push]

/-- A block is made and named. -/
theorem Goes.alloc {id : Nat} (hr : ρ id = none) (o : Obj) (g : List Seg) (sz : Nat) :
    Goes s.next s.nh s (s.setBlk id g) ρ (ρ.upd id (w.heap.size, sz)) lh lh w (w.alloc o) := by
  refine ⟨by simp, fun b o' hb _ => ?_, fun b hb => ?_, fun i _ r h => Rho.le_upd _ hr i r h, fun _ _ _ h => h, rfl, rfl⟩
  · rw [heap_alloc, if_neg (by have := lt_of_heap hb; omega)]; exact hb
  · rcases hb with ⟨i, segs, sz', h1, h2, h3⟩ | ⟨L, x, h1, h2⟩
    · by_cases hi : i = id
      · subst hi
        rw [Rho.upd_same] at h2
        cases h2
        exact .inr (Nat.le_refl _)
      · simp only [St.blk_setBlk, hi, if_false] at h1
        rw [Rho.upd_other _ _ hi] at h2
        exact .inl (.inl ⟨i, segs, sz', h1, h2, h3⟩)
    · exact .inl (.inr ⟨L, x, h1, h2⟩)

theorem SatH.alloc (h : SatH X G s ρ lh w) {id : Nat} (hr : ρ id = none) (hid : id < s.next) {cs : Array Value} {elem : TypeId} {g : List Seg}
    (hd : DenS w (Own X s ρ lh) ρ lh g cs.toList) : SatH X G (s.setBlk id g) (ρ.upd id (w.heap.size, cs.size)) lh (w.alloc (.cells cs elem)) := by
  have hgo := Goes.alloc (s := s) (lh := lh) (w := w) hr (.cells cs elem) g cs.size
  have hst := hgo.stab (X := X)
  refine h.step hgo (by simp) ?_ ?_ ?_ ?_ ?_ rfl (Nat.le_refl _)
  · intro i segs he
    by_cases hi : i = id
    · subst hi
      simp only [St.blk_setBlk, if_true, Option.some.injEq] at he
      subst he
      exact .inr ⟨_, _, Rho.upd_same _ _ _, _, hd.stab hst (Rho.le_upd _ hr) (Le.refl _), by simp, fun _ => ⟨cs, elem, by rw [heap_alloc, if_pos rfl], rfl⟩⟩
    · simp only [St.blk_setBlk, hi, if_false] at he
      exact .inl ⟨he, fun b sz hb _ o ho => by rw [heap_alloc, if_neg (by have := lt_of_heap ho; omega)]; exact ho⟩
  · intro i i' segs segs' b sz sz' h1 h2 h3 h4 h5 h6
    have old : ∀ j segs sz, j ≠ id → s.blk j = some segs → ρ j = some (b, sz) → sz ≠ 0 → b < w.heap.size := fun j segs sz _ e1 e2 e3 => by
      obtain ⟨b', sz', e4, l, _, _, hb⟩ := h.blk j segs e1
      rw [e2] at e4; cases e4
      obtain ⟨cs', elem', hb', _⟩ := hb e3
      exact lt_of_heap hb'
    by_cases hi : i = id <;> by_cases hi' : i' = id
    · rw [hi, hi']
    · exfalso
      subst hi
      rw [Rho.upd_same] at h3; cases h3
      simp only [St.blk_setBlk, hi', if_false] at h2
      rw [Rho.upd_other _ _ hi'] at h4
      have := old i' segs' sz' hi' h2 h4 h6
      omega
    · exfalso
      subst hi'
      rw [Rho.upd_same] at h4; cases h4
      simp only [St.blk_setBlk, hi, if_false] at h1
      rw [Rho.upd_other _ _ hi] at h3
      have := old i segs sz hi h1 h3 h5
      omega
    · simp only [St.blk_setBlk, hi, hi', if_false] at h1 h2
      rw [Rho.upd_other _ _ hi] at h3
      rw [Rho.upd_other _ _ hi'] at h4
      exact h.inj i i' segs segs' b sz sz' h1 h2 h3 h4 h5 h6
  · intro b hb hx
    rcases hgo.own b hb with hm | hm
    · exact h.foreign b hm hx
    · have := h.xlt b hx; omega
  · intro i r hi
    by_cases hii : i = id
    · subst hii; exact hid
    · rw [Rho.upd_other _ _ hii] at hi; exact h.nxt i r hi
  · intro L x l _ _ o ho
    rw [heap_alloc, if_neg (by have := lt_of_heap ho; omega)]; exact ho

/-- A block is written. -/
theorem SatH.write (h : SatH X G s ρ lh w) {id : Nat} {g g' : List Seg} {b sz : Nat} (hg : s.blk id = some g) (hr : ρ id = some (b, sz)) {cs' : Array Value} (hz : sz ≠ 0) (hcs : cs'.size = sz)
    (hd : DenS w (Own X s ρ lh) ρ lh g' cs'.toList) :
    SatH X G (s.setBlk id g') ρ lh (w.setRow b cs') ∧ Goes s.next s.nh s (s.setBlk id g') ρ ρ lh lh w (w.setRow b cs') := by
  have hmine : ∀ c, Mine (s.setBlk id g') ρ lh c → Mine s ρ lh c := by
    rintro c (⟨i, segs, sz', h1, h2, h3⟩ | ⟨L, x, h1, h2⟩)
    · by_cases hi : i = id
      · subst hi
        exact .inl ⟨i, g, sz', hg, h2, h3⟩
      · simp only [St.blk_setBlk, hi, if_false] at h1
        exact .inl ⟨i, segs, sz', h1, h2, h3⟩
    · exact .inr ⟨L, x, h1, h2⟩
  have hgo : Goes s.next s.nh s (s.setBlk id g') ρ ρ lh lh w (w.setRow b cs') := by
    refine ⟨by simp, fun c o hc hm => ?_, fun c hc => .inl (hmine c hc), fun _ _ _ h => h, fun _ _ _ h => h, rfl, rfl⟩
    rw [setRow_other w b c cs' (fun e => hm (.inl ⟨id, g, sz, hg, by rw [e]; exact hr, hz⟩))]
    exact hc
  have hst := hgo.stab (X := X)
  obtain ⟨b', sz', e1, l, _, _, hb⟩ := h.blk id g hg
  rw [hr] at e1; cases e1
  obtain ⟨cs, elem, hcell, _⟩ := hb hz
  refine ⟨h.step hgo (by simp) ?_ ?_ ?_ h.nxt ?_ rfl (Nat.le_refl _), hgo⟩
  · intro i segs he
    by_cases hi : i = id
    · subst hi
      simp only [St.blk_setBlk, if_true, Option.some.injEq] at he
      subst he
      exact .inr ⟨b, sz, hr, _, hd.stab hst (Le.refl _) (Le.refl _), by simpa using hcs, fun _ => ⟨cs', elem, setRow_heap w b cs cs' elem (0, 0) hcell, rfl⟩⟩
    · simp only [St.blk_setBlk, hi, if_false] at he
      refine .inl ⟨he, fun c sz' hc hz' o ho => ?_⟩
      rw [setRow_other w b c cs' (fun e => hi (h.inj i id segs g c sz' sz he hg hc (by rw [e]; exact hr) hz' hz))]
      exact ho
  · intro i i' segs segs' c sz1 sz2 h1 h2
    have up : ∀ j segs, (s.setBlk id g').blk j = some segs → ∃ segs0, s.blk j = some segs0 := fun j segs e => by
      by_cases hj : j = id
      · subst hj; exact ⟨g, hg⟩
      · simp only [St.blk_setBlk, hj, if_false] at e; exact ⟨segs, e⟩
    obtain ⟨x, hx⟩ := up i segs h1
    obtain ⟨y, hy⟩ := up i' segs' h2
    exact h.inj i i' x y c sz1 sz2 hx hy
  · exact fun c hc => h.foreign c (hmine c hc)
  · intro L x l hL hl o ho
    have hne : l ≠ b := fun e => by
      obtain ⟨l', r, e1, e2, _⟩ := h.hd L x hL
      rw [hl] at e1; cases e1
      rw [e, hcell] at e2; cases e2
    rw [setRow_other w b l cs' hne]
    exact ho
end
end Go.SE
/- Types, the parts of a block, and the tree of an operation. -/
namespace Go.SE
open Go

/-! ### Parts of a block -/
def Seg.size : Seg → Option Nat
  | .one _ => some 1
  | .ints n _ | .b8s n _ | .b32s n _ | .rows n _ => some n
  | .spare => none
/-- A block's parts, cut at a cell. -/
def segSplit : List Seg → Nat → Option (List Seg × List Seg)
  | r, 0 => some ([], r)
  | [], _ + 1 => none
  | g :: r, n + 1 => match g.size with
    | some k => if k ≤ n + 1 then match segSplit r (n + 1 - k) with
      | some (p, q) => some (g :: p, q)
      | none => none
      else none
    | none => none

section
variable {w : World} {own : Nat → Prop} {ρ : Rho} {lh : Lam}

theorem DenR.length {xss : List (List (BitVec 8))} {l : List Value} (h : DenR w own xss l) : l.length = xss.length := by
  match h with
  | .nil => rfl
  | .cons _ hr => simp [DenR.length hr]
theorem DenS0.size {g : Seg} {l : List Value} {k : Nat} (h : DenS0 w own [g] l) (hk : g.size = some k) : l.length = k := by
  cases h with
  | one _ _ hr => cases hr; simpa [Seg.size] using hk
  | ints hn hr => cases hr; simp [Seg.size] at hk; simp; omega
  | b8s hn hr => cases hr; simp [Seg.size] at hk; simp; omega
  | b32s hn hr => cases hr; simp [Seg.size] at hk; simp; omega
  | rows hn hv hr => cases hr; simp [Seg.size] at hk; have := hv.length; simp; omega
  | spare _ => cases hk
theorem DenS0.append {o : List Seg} {l : List Value} : ∀ {g : Seg} {l1 : List Value}, DenS0 w own [g] l1 → DenS0 w own o l → g.size ≠ none → DenS0 w own (g :: o) (l1 ++ l)
  | _, _, .one hv h1 hr, h, _ => by cases hr; exact .one hv h1 h
  | _, _, .ints hn hr, h, _ => by cases hr; rw [List.append_nil]; exact .ints hn h
  | _, _, .b8s hn hr, h, _ => by cases hr; rw [List.append_nil]; exact .b8s hn h
  | _, _, .b32s hn hr, h, _ => by cases hr; rw [List.append_nil]; exact .b32s hn h
  | _, _, .rows hn hv hr, h, _ => by cases hr; rw [List.append_nil]; exact .rows hn hv h
  | _, _, .spare _, _, hz => absurd rfl hz
/-- The first part apart. -/
theorem DenS0.cons_inv {g : Seg} {r : List Seg} {l : List Value} (h : DenS0 w own (g :: r) l) : ∃ l1 l2, l = l1 ++ l2 ∧ DenS0 w own [g] l1 ∧ DenS0 w own r l2 := by
  cases h with
  | one hv h1 hr => exact ⟨[_], _, rfl, .one hv h1 .nil, hr⟩
  | ints hn hr => exact ⟨_, _, rfl, by have := DenS0.ints (w := w) (own := own) hn .nil; rwa [List.append_nil] at this, hr⟩
  | b8s hn hr => exact ⟨_, _, rfl, by have := DenS0.b8s (w := w) (own := own) hn .nil; rwa [List.append_nil] at this, hr⟩
  | b32s hn hr => exact ⟨_, _, rfl, by have := DenS0.b32s (w := w) (own := own) hn .nil; rwa [List.append_nil] at this, hr⟩
  | rows hn hv hr => exact ⟨_, _, rfl, by have := DenS0.rows (w := w) (own := own) hn hv .nil; rwa [List.append_nil] at this, hr⟩
  | spare hl => exact ⟨_, [], by simp, .spare hl, .nil⟩
theorem DenS.cons_inv {g : Seg} {r : List Seg} {l : List Value} (h : DenS w own ρ lh (g :: r) l) : ∃ l1 l2, l = l1 ++ l2 ∧ DenS w own ρ lh [g] l1 ∧ DenS w own ρ lh r l2 := by
  cases h with
  | one hv h1 hr => exact ⟨[_], _, rfl, .one hv h1 .nil, hr⟩
  | seg hg hr => exact ⟨_, _, rfl, by have := DenS.seg (ρ := ρ) (lh := lh) hg .nil; rwa [List.append_nil] at this, hr⟩
theorem DenS.cons {g : Seg} {r : List Seg} {l1 l2 : List Value} (h : DenS w own ρ lh [g] l1) (hr : DenS w own ρ lh r l2) : DenS w own ρ lh (g :: r) (l1 ++ l2) := by
  cases h with
  | one hv h1 h0 => cases h0; exact .one hv h1 hr
  | seg hg h0 => cases h0; rw [List.append_nil]; exact .seg hg hr
theorem DenS.append {p q : List Seg} : ∀ {l1 l2 : List Value}, DenS w own ρ lh p l1 → DenS w own ρ lh q l2 → DenS w own ρ lh (p ++ q) (l1 ++ l2) := by
  induction p with
  | nil => intro l1 l2 h1 h2; cases h1; exact h2
  | cons g r ih =>
    intro l1 l2 h1 h2
    obtain ⟨a, b, rfl, ha, hb⟩ := h1.cons_inv
    rw [List.append_assoc]
    exact .cons ha (ih hb h2)
theorem DenS.size {g : Seg} {l : List Value} {k : Nat} (h : DenS w own ρ lh [g] l) (hk : g.size = some k) : l.length = k := by
  cases h with
  | one _ _ hr => cases hr; simpa [Seg.size] using hk
  | seg hg hr => cases hr; simpa using hg.size hk
/-- Every part without names has what it denotes. -/
theorem DenS0.full {o : List Seg} : ∀ {l : List Value}, DenS0 w own o l → DenS w own ρ lh o l := by
  induction o with
  | nil => intro l h; cases h; exact .nil
  | cons g r ih =>
    intro l h
    obtain ⟨a, b, rfl, ha, hb⟩ := h.cons_inv
    exact .seg ha (ih hb)

theorem segSplit_den {o : List Seg} : ∀ {n : Nat} {p q : List Seg} {l : List Value}, DenS w own ρ lh o l → segSplit o n = some (p, q) →
    ∃ l1 l2, l = l1 ++ l2 ∧ l1.length = n ∧ DenS w own ρ lh p l1 ∧ DenS w own ρ lh q l2 := by
  induction o with
  | nil =>
    intro n p q l h e
    cases n with
    | zero => simp only [segSplit, Option.some.injEq, Prod.mk.injEq] at e; obtain ⟨rfl, rfl⟩ := e; exact ⟨[], l, rfl, rfl, .nil, h⟩
    | succ n => simp [segSplit] at e
  | cons g r ih =>
    intro n p q l h e
    cases n with
    | zero => simp only [segSplit, Option.some.injEq, Prod.mk.injEq] at e; obtain ⟨rfl, rfl⟩ := e; exact ⟨[], l, rfl, rfl, .nil, h⟩
    | succ n =>
      simp only [segSplit] at e
      split at e
      · rename_i k hk
        split at e
        · rename_i hle
          split at e
          · rename_i p' q' hs
            simp only [Option.some.injEq, Prod.mk.injEq] at e
            obtain ⟨rfl, rfl⟩ := e
            obtain ⟨a, b, rfl, ha, hb⟩ := h.cons_inv
            obtain ⟨l1, l2, rfl, h1, h2, h3⟩ := ih hb hs
            have := ha.size hk
            exact ⟨a ++ l1, l2, by simp, by simp; omega, .cons ha h2, h3⟩
          · cases e
        · cases e
      · cases e
theorem segSplit_den0 {o : List Seg} : ∀ {n : Nat} {p q : List Seg} {l : List Value}, DenS0 w own o l → segSplit o n = some (p, q) →
    ∃ l1 l2, l = l1 ++ l2 ∧ l1.length = n ∧ DenS0 w own p l1 ∧ DenS0 w own q l2 := by
  induction o with
  | nil =>
    intro n p q l h e
    cases n with
    | zero => simp only [segSplit, Option.some.injEq, Prod.mk.injEq] at e; obtain ⟨rfl, rfl⟩ := e; exact ⟨[], l, rfl, rfl, .nil, h⟩
    | succ n => simp [segSplit] at e
  | cons g r ih =>
    intro n p q l h e
    cases n with
    | zero => simp only [segSplit, Option.some.injEq, Prod.mk.injEq] at e; obtain ⟨rfl, rfl⟩ := e; exact ⟨[], l, rfl, rfl, .nil, h⟩
    | succ n =>
      simp only [segSplit] at e
      split at e
      · rename_i k hk
        split at e
        · rename_i hle
          split at e
          · rename_i p' q' hs
            simp only [Option.some.injEq, Prod.mk.injEq] at e
            obtain ⟨rfl, rfl⟩ := e
            obtain ⟨a, b, rfl, ha, hb⟩ := h.cons_inv
            obtain ⟨l1, l2, rfl, h1, h2, h3⟩ := ih hb hs
            have := ha.size hk
            exact ⟨a ++ l1, l2, by simp, by simp; omega, ha.append h2 (by rw [hk]; simp), h3⟩
          · cases e
        · cases e
      · cases e
end

/-! ### The tree of an operation -/
/-- What an operation does: its value; the names that it drops; the blocks that it writes; the blocks that it makes. -/
structure Eff where
  v : SV
  drop : List Nat
  set : List (Nat × List Seg)
  new : List (List Seg)

/-- An operation on the symbolic state: it looks at owned blocks, asks for conditions, and is done. -/
inductive Tr where
  | blk (id : Nat) (k : List Seg → Tr)
  | vc (p : Prop) (k : Tr)
  | split (b : Bool) (t f : Tr)
  | done (e : Eff)
  | fail

def Tr.val (v : SV) : Tr := .done ⟨v, [], [], []⟩

/-- The condition under which the tree is done in the way K takes. -/
def Tr.wp (h : Nat → Option (List Seg)) : Tr → List Nat → (Eff → List Nat → Prop) → Prop
  | .blk id k, rd, K => match h id with
    | some g => (k g).wp h (id :: rd) K
    | none => False
  | .vc p k, rd, K => p ∧ k.wp h rd K
  | .split b t f, rd, K => match b with
    | true => t.wp h rd K
    | false => f.wp h rd K
  | .done e, rd, K => K e rd
  | .fail, _, _ => False

/-- The tree is done so, having looked at these blocks. -/
def Tr.Ok (h : Nat → Option (List Seg)) : Tr → Eff → List Nat → Prop
  | .blk id k, e, rd => ∃ g rd', h id = some g ∧ rd = id :: rd' ∧ (k g).Ok h e rd'
  | .vc p k, e, rd => p ∧ k.Ok h e rd
  | .split b t f, e, rd => match b with
    | true => t.Ok h e rd
    | false => f.Ok h e rd
  | .done e0, e, rd => e = e0 ∧ rd = []
  | .fail, _, _ => False

theorem Tr.ok_of_wp {h : Nat → Option (List Seg)} {tr : Tr} : ∀ {rd : List Nat} {K : Eff → List Nat → Prop}, tr.wp h rd K → ∃ e rd', tr.Ok h e rd' ∧ K e (rd'.reverse ++ rd) := by
  induction tr with
  | blk id k ih =>
    intro rd K hw
    simp only [Tr.wp] at hw
    split at hw
    · rename_i g hg
      obtain ⟨e, rd', h1, h2⟩ := ih g hw
      exact ⟨e, id :: rd', ⟨g, rd', hg, rfl, h1⟩, by simpa using h2⟩
    · exact hw.elim
  | vc p k ih =>
    intro rd K hw
    obtain ⟨hp, hw⟩ := hw
    obtain ⟨e, rd', h1, h2⟩ := ih hw
    exact ⟨e, rd', ⟨hp, h1⟩, h2⟩
  | split b t f iht ihf =>
    intro rd K hw
    cases b
    · exact ihf hw
    · exact iht hw
  | done e => intro rd K hw; exact ⟨e, [], ⟨rfl, rfl⟩, hw⟩
  | fail => intro rd K hw; exact hw.elim

/-- What is done hangs on the blocks looked at alone. -/
theorem Tr.Ok.local {h h' : Nat → Option (List Seg)} {tr : Tr} : ∀ {e : Eff} {rd : List Nat}, tr.Ok h e rd → (∀ id ∈ rd, h' id = h id) → tr.Ok h' e rd := by
  induction tr with
  | blk id k ih =>
    rintro e rd ⟨g, rd', hg, rfl, hk⟩ hh
    exact ⟨g, rd', by rw [hh id (by simp), hg], rfl, ih g hk fun i hi => hh i (by simp [hi])⟩
  | vc p k ih => rintro e rd ⟨hp, hk⟩ hh; exact ⟨hp, ih hk hh⟩
  | split b t f iht ihf =>
    intro e rd hk hh
    cases b
    · exact ihf hk hh
    · exact iht hk hh
  | done e0 => rintro e rd ⟨rfl, rfl⟩ _; exact ⟨rfl, rfl⟩
  | fail => intro e rd h; exact h.elim

/-- The state behind an operation. -/
def newAt (fr : Nat) : List (List Seg) → List (Nat × List Seg)
  | [] => []
  | g :: r => (fr, g) :: newAt (fr + 1) r
def St.dropAll (s : St) : List Nat → St
  | [] => s
  | id :: r => (s.drop id).dropAll r
def St.setAll (s : St) : List (Nat × List Seg) → St
  | [] => s
  | (id, g) :: r => (s.setBlk id g).setAll r
def St.eff (s : St) (e : Eff) (fr : Nat) : St := ((s.dropAll e.drop).setAll e.set).setAll (newAt fr e.new)

end Go.SE
/- Types; operands; loads and stores. -/
namespace Go.SE
open Go

/-! ### Types -/
inductive TK where
  | other | bool | i64 | u8 | u16 | u32 | u64 | str
  | ptr (e : Nat)
  | slice (e : Nat)
  | arr (n e : Nat)
  | struct (fs : List (Nat × Nat))
  | func
  deriving DecidableEq, Inhabited
/-- What the evaluator knows of a type: its kind, its cells, its bytes, its zero value. -/
structure TI where
  k : TK
  size : Nat
  bytes : Nat
  zero : List Seg
instance : Inhabited TI := ⟨⟨.other, 0, 0, []⟩⟩
def TI.agg (ti : TI) : Bool := match ti.k with
  | .arr _ _ | .struct _ => true
  | _ => false
def kOK : TK → TypeDesc → Prop
  | .other, _ => False
  | .bool, d => d = .bool
  | .i64, d => d = .int .i64
  | .u8, d => d = .int .u8
  | .u16, d => d = .int .u16
  | .u32, d => d = .int .u32
  | .u64, d => d = .int .u64
  | .str, d => d = .string
  | .ptr e, d => d = .pointer e
  | .slice e, d => d = .slice e
  | .arr n e, d => d = .array n e
  | .struct fs, d => ∃ fields, d = .struct fields ∧ fields.toList.map (fun f => (f.offset, f.type)) = fs
  | .func, d => ∃ a b c, d = .func a b c
/-- The values of parts that hold no address. -/
def zvals : List Seg → List Value
  | [] => []
  | .one (.int n) :: r => vInt n :: zvals r
  | .one (.bool b) :: r => .bool b :: zvals r
  | .one .nilp :: r => .pointer none :: zvals r
  | .one .nilf :: r => .nilFunc :: zvals r
  | .one .nils :: r => .slice none 0 0 :: zvals r
  | .ints _ xs :: r => xs.map vInt ++ zvals r
  | .b8s _ xs :: r => xs.map v8 ++ zvals r
  | .b32s _ xs :: r => xs.map v32 ++ zvals r
  | .one (.b8 x) :: r => v8 x :: zvals r
  | .one (.b32 x) :: r => v32 x :: zvals r
  | .one (.b64 x) :: r => v64 x :: zvals r
  | .one (.b16 x) :: r => v16 x :: zvals r
  | .one (.str s) :: r => .string (mkStr s) :: zvals r
  | _ :: r => zvals r
def zok : List Seg → Bool
  | [] => true
  | .one (.int _) :: r | .one (.bool _) :: r | .one .nilp :: r | .one .nilf :: r | .one .nils :: r | .one (.b8 _) :: r | .one (.b32 _) :: r | .one (.b64 _) :: r | .one (.b16 _) :: r | .one (.str _) :: r => zok r
  | .ints n xs :: r => xs.length == n && zok r
  | .b8s n xs :: r => xs.length == n && zok r
  | .b32s n xs :: r => xs.length == n && zok r
  | _ => false
theorem zok_den {w : World} {own : Nat → Prop} (o : List Seg) (h : zok o = true) : DenS0 w own o (zvals o) := by
  induction o with
  | nil => exact .nil
  | cons g r ih =>
    cases g with
    | one v => cases v <;> first | (simp only [zok] at h; exact absurd h (by decide)) | (simp only [zok] at h; exact .one (by constructor) rfl (ih h))
    | ints n xs => simp only [zok, Bool.and_eq_true, beq_iff_eq] at h; exact .ints h.1 (ih h.2)
    | b8s n xs => simp only [zok, Bool.and_eq_true, beq_iff_eq] at h; exact .b8s h.1 (ih h.2)
    | b32s n xs => simp only [zok, Bool.and_eq_true, beq_iff_eq] at h; exact .b32s h.1 (ih h.2)
    | rows n xss => simp [zok] at h
    | spare => simp [zok] at h

structure TIok (P : Program) (t : TypeId) (ti : TI) : Prop where
  und : ∃ d, P.underlying t = some d ∧ kOK ti.k d
  info : ∃ i, P.info? t = some i ∧ i.size = ti.size ∧ i.bytes = ti.bytes ∧ ∃ z, i.zero = some z ∧ z.cells.toList = zvals ti.zero
  zero : zok ti.zero = true
  len : (zvals ti.zero).length = ti.size
  one : ti.agg = false → ti.size = 1
/-- The table of types is the program's. -/
def TabOK (P : Program) (T : List TI) : Prop := ∀ t ti, T[t]? = some ti → ti.k ≠ .other → TIok P t ti
def ty (T : List TI) (t : Nat) : TI := (T[t]?).getD default

theorem TabOK.get {P : Program} {T : List TI} (h : TabOK P T) {t : Nat} (hk : (ty T t).k ≠ .other) : TIok P t (ty T t) := by
  unfold ty at *
  cases e : T[t]? with
  | none => rw [e] at hk; exact absurd rfl hk
  | some ti => rw [e] at hk; exact h t ti e hk

section
variable {P : Program} {T : List TI} {t : Nat} {w : World}
theorem TIok.run_underlying {ti : TI} (h : TIok P t ti) : ∃ d, (underlying t).run P w = .ok d w ∧ kOK ti.k d ∧ P.underlying t = some d := by
  obtain ⟨d, hd, hk⟩ := h.und
  exact ⟨d, Go.run_underlying hd w, hk, hd⟩
theorem TIok.run_sizeOf {ti : TI} (h : TIok P t ti) : (sizeOf t).run P w = .ok ti.size w := by
  obtain ⟨i, hi, hs, _⟩ := h.info
  simp [sizeOf, typeInfo, hi, hs]
theorem TIok.run_bytes {ti : TI} (h : TIok P t ti) : ∃ i, (typeInfo t).run P w = .ok i w ∧ i.bytes = ti.bytes := by
  obtain ⟨i, hi, hs, hb, _⟩ := h.info
  exact ⟨i, by simp [typeInfo, hi], hb⟩
theorem TIok.run_isAgg {ti : TI} (h : TIok P t ti) : (isAgg t).run P w = .ok ti.agg w := by
  obtain ⟨d, hd, hk, _⟩ := h.run_underlying (w := w)
  obtain ⟨k, size, bytes, zero⟩ := ti
  simp only [isAgg, Sem.run_bind, hd, Result.andThen_ok]
  cases k <;> simp only [kOK] at hk <;> first | exact hk.elim | (subst hk; rfl) | (obtain ⟨a, b, c, rfl⟩ := hk; rfl) | (obtain ⟨a, rfl, _⟩ := hk; rfl)
theorem TIok.run_zero {ti : TI} (h : TIok P t ti) : ∃ z, (zeroValue t).run P w = .ok z w ∧ z.cells.toList = zvals ti.zero := by
  obtain ⟨i, hi, _, _, z, hz, hc⟩ := h.info
  exact ⟨z, by simp [zeroValue, typeInfo, hi, hz], hc⟩
end

/-! ### Operands -/
def strOf (s : ByteArray) : List (BitVec 8) := s.data.toList.map (·.toBitVec)
theorem mkStr_strOf (s : ByteArray) : mkStr (strOf s) = s := by
  unfold mkStr strOf
  have : (List.map (fun x => UInt8.ofBitVec x) (List.map (fun x : UInt8 => x.toBitVec) s.data.toList)) = s.data.toList := by
    rw [List.map_map]
    conv => rhs; rw [← List.map_id s.data.toList]
    apply List.map_congr_left
    intro x _
    rfl
  rw [this]
def svOf : Value → SV
  | .bool b => .bool b
  | .int .i64 n => .int n
  | .int .u8 (.ofNat n) => if n < 256 then .b8 (BitVec.ofNat 8 n) else .any
  | .int .u16 (.ofNat n) => if n < 65536 then .b16 (BitVec.ofNat 16 n) else .any
  | .int .u32 (.ofNat n) => if n < 4294967296 then .b32 (BitVec.ofNat 32 n) else .any
  | .int .u64 (.ofNat n) => if n < 18446744073709551616 then .b64 (BitVec.ofNat 64 n) else .any
  | .string s => .str (strOf s)
  | .pointer none => .nilp
  | .nilFunc => .nilf
  | .slice none 0 0 => .nils
  | _ => .any
theorem svOf_den {w : World} {own : Nat → Prop} (v : Value) : Den0 w own (svOf v) v := by
  unfold svOf
  split
  · exact .bool _
  · exact .int _
  · split
    · rename_i n h
      have := Den0.b8 (w := w) (own := own) (BitVec.ofNat 8 n)
      simpa [v8, Nat.mod_eq_of_lt h] using this
    · exact .any _
  · split
    · rename_i n h
      have := Den0.b16 (w := w) (own := own) (BitVec.ofNat 16 n)
      simpa [v16, Nat.mod_eq_of_lt h] using this
    · exact .any _
  · split
    · rename_i n h
      have := Den0.b32 (w := w) (own := own) (BitVec.ofNat 32 n)
      simpa [v32, Nat.mod_eq_of_lt h] using this
    · exact .any _
  · split
    · rename_i n h
      have := Den0.b64 (w := w) (own := own) (BitVec.ofNat 64 n)
      simpa [v64, Nat.mod_eq_of_lt h] using this
    · exact .any _
  · rename_i s
    have := Den0.str (w := w) (own := own) (strOf s)
    rwa [mkStr_strOf] at this
  · exact .nilp
  · exact .nilf
  · exact .nils
  · exact .any _

def ev (G : List (Nat × SV)) (s : St) : Operand → SV
  | .tmp t => (s.tmps[t]?).getD .any
  | .const v => svOf v
  | .global g => (look G g).getD .any
  | .func f => .fn f [] []

theorem look_mem {α : Type} {l : List (Nat × α)} {n : Nat} {x : α} (h : look l n = some x) : (n, x) ∈ l := by
  induction l with
  | nil => cases h
  | cons p r ih =>
    obtain ⟨k, y⟩ := p
    rw [look_cons] at h
    split at h
    · rename_i hk; subst hk; cases h; simp
    · simp [ih h]

section
variable {X : Nat → Prop} {G : List (Nat × SV)} {s : St} {ρ : Rho} {lh : Lam} {a : Act} {w : World}
theorem ev_den (h : Sat X G s ρ lh a w) (x : Operand) : Den w (Own X s ρ lh) ρ lh (ev G s x) (a.eval x) := by
  cases x with
  | tmp t =>
    simp only [ev, Act.eval]
    cases e : s.tmps[t]? with
    | none => exact .im (.any _)
    | some sv => exact h.T.tmp t sv e
  | const v => exact .im (svOf_den v)
  | global g =>
    simp only [ev, Act.eval]
    cases e : look G g with
    | none => exact .im (.any _)
    | some sv => exact .im (h.H.glob g sv (look_mem e))
  | func f => exact .im (.fn (v1 := []) (v2 := []) .nil .nil)
end

/-! ### Loads -/
/-- A part of a row of cells, read off the state. -/
def rd1 (ti : TI) (g : List Seg) (base : Nat) : Tr := match segSplit g base with
  | some (_, r) => match ti.agg with
    | true => match segSplit r ti.size with
      | some (m, _) => .val (.agg m)
      | none => .fail
    | false => match r with
      | .one v :: _ => .val v
      | _ => .fail
  | none => .fail
def rowAt (xss : List (List (BitVec 8))) (i : Nat) : SV := .sl 1 (xss.getD i []).length (.b8s (xss.getD i []).length (xss.getD i []))
def rdi (ti : TI) (g : List Seg) (base idx : Nat) : Tr := match segSplit g base with
  | some (_, r) => match ti.agg with
    | true => match r with
      | .b8s n xs :: _ => .vc (idx + ti.size ≤ n) (.val (.agg [.b8s ti.size ((xs.drop idx).take ti.size)]))
      | _ => .fail
    | false => match r with
      | .ints n xs :: _ => .vc (idx < n) (.val (.int (xs.getD idx 0)))
      | .b8s n xs :: _ => .vc (idx < n) (.val (.b8 (xs.getD idx 0)))
      | .b32s n xs :: _ => .vc (idx < n) (.val (.b32 (xs.getD idx 0)))
      | .rows n xss :: _ => .vc (idx < n) (.val (rowAt xss idx))
      | .one _ :: _ => match segSplit r idx with
        | some (_, .one v :: _) => .val v
        | _ => .fail
      | _ => .fail
  | none => .fail
def loadT (ti : TI) : SV → Tr
  | .ptr id base => .blk id fun g => rd1 ti g base
  | .ptri id base idx => .blk id fun g => rdi ti g base idx
  | .ip o base => rd1 ti o base
  | .ipi o base idx => rdi ti o base idx
  | _ => .fail

section
variable {P : Program} {w : World} {own : Nat → Prop} {ρ : Rho} {lh : Lam}
theorem add_zero_spot (b o j : Nat) : (⟨b, o, none⟩ : Addr).add j = ⟨b, o + j, none⟩ := by unfold Addr.add; split <;> simp_all
theorem cell_of_lies {b off : Nat} {cs : Array Value} {elem : TypeId} {fr : Nat × Nat} {l : List Value} (hb : w.heap[b]? = some (.cells cs elem fr)) (hp : liesAt cs off l) {j : Nat} {x : Value}
    (hj : l[j]? = some x) : w.cell? ⟨b, off + j, none⟩ = some x := by
  have hl : j < l.length := (List.getElem?_eq_some_iff.1 hj).1
  unfold liesAt at hp
  rw [← hp] at hj
  rw [List.getElem?_take, if_pos hl, List.getElem?_drop] at hj
  simp only [World.cell?, hb]
  simpa using hj
theorem liesAt_mid {cs : Array Value} {off : Nat} {l1 l2 l3 : List Value} (h : liesAt cs off (l1 ++ l2 ++ l3)) : liesAt cs (off + l1.length) l2 := by
  unfold liesAt at *
  have h1 : (cs.toList.drop off) = (l1 ++ l2 ++ l3) ++ (cs.toList.drop off).drop (l1 ++ l2 ++ l3).length := by
    conv => lhs; rw [← List.take_append_drop (l1 ++ l2 ++ l3).length (cs.toList.drop off)]
    rw [h]
  rw [← List.drop_drop, h1]
  simp [List.append_assoc]
theorem run_load_var {ti : TI} {t : Nat} (ht : TIok P t ti) (hagg : ti.agg = true) {b off : Nat} {l : List Value} (hl : l.length = ti.size)
    (hc : ∀ j x, l[j]? = some x → w.cell? ⟨b, off + j, none⟩ = some x) : (Instr.loadAt t (.pointer (some ⟨b, off, none⟩))).run P w = .ok (.agg l.toArray) w := by
  have := run_loadCells_list (P := P) w ⟨b, off, none⟩ l (fun j v hj => by rw [add_zero_spot]; exact hc j v hj)
  simp only [Instr.loadAt, Instr.sureAddr, loadVar, Sem.run_bind, Sem.run_pure, Result.andThen_ok, ht.run_isAgg, hagg, if_true, ht.run_sizeOf, ← hl, this]
theorem run_load_one {ti : TI} {t : Nat} (ht : TIok P t ti) (hagg : ti.agg = false) {b off : Nat} {x : Value}
    (hc : w.cell? ⟨b, off, none⟩ = some x) : (Instr.loadAt t (.pointer (some ⟨b, off, none⟩))).run P w = .ok x w := by
  simp only [Instr.loadAt, Instr.sureAddr, loadVar, Sem.run_bind, Sem.run_pure, Result.andThen_ok, ht.run_isAgg, hagg, Bool.false_eq_true, if_false, run_load, hc]

/-- The cells of parts, as they lie in a block. -/
def Lies (w : World) (own : Nat → Prop) (ρ : Rho) (lh : Lam) (b off : Nat) (g : List Seg) : Prop :=
  ∃ l, DenS w own ρ lh g l ∧ ∀ j x, l[j]? = some x → w.cell? ⟨b, off + j, none⟩ = some x

theorem Lies.split {b off n : Nat} {g p q : List Seg} (h : Lies w own ρ lh b off g) (e : segSplit g n = some (p, q)) : Lies w own ρ lh b off p ∧ Lies w own ρ lh b (off + n) q := by
  obtain ⟨l, hd, hc⟩ := h
  obtain ⟨l1, l2, rfl, h1, h2, h3⟩ := segSplit_den hd e
  refine ⟨⟨l1, h2, fun j x hj => hc j x ?_⟩, l2, h3, fun j x hj => ?_⟩
  · rw [List.getElem?_append_left (List.getElem?_eq_some_iff.1 hj).1]; exact hj
  · have := hc (n + j) x (by rw [List.getElem?_append_right (by omega), show n + j - l1.length = j by omega]; exact hj)
    rwa [Nat.add_assoc]
theorem segSplit_size {g : List Seg} : ∀ {n : Nat} {p q : List Seg} {l : List Value}, DenS w own ρ lh p l → segSplit g n = some (p, q) → l.length = n := by
  induction g with
  | nil =>
    intro n p q l h e
    cases n with
    | zero => simp only [segSplit, Option.some.injEq, Prod.mk.injEq] at e; obtain ⟨rfl, rfl⟩ := e; cases h; rfl
    | succ n => simp [segSplit] at e
  | cons x r ih =>
    intro n p q l h e
    cases n with
    | zero => simp only [segSplit, Option.some.injEq, Prod.mk.injEq] at e; obtain ⟨rfl, rfl⟩ := e; cases h; rfl
    | succ n =>
      simp only [segSplit] at e
      split at e
      · rename_i k hk
        split at e
        · rename_i hle
          split at e
          · rename_i p' q' hs
            simp only [Option.some.injEq, Prod.mk.injEq] at e
            obtain ⟨rfl, rfl⟩ := e
            obtain ⟨a, b, rfl, ha, hb⟩ := h.cons_inv
            have h1 := ha.size hk
            have h2 := ih hb hs
            simp; omega
          · cases e
        · cases e
      · cases e

theorem map_get {α : Type} (f : α → Value) (xs : List α) (d : α) (l : List Value) {i : Nat} (hi : i < xs.length) : (xs.map f ++ l)[i]? = some (f (xs.getD i d)) := by
  rw [List.getElem?_append_left (by simpa using hi)]
  simp [List.getD, hi]
theorem DenR.get {xss : List (List (BitVec 8))} : ∀ {l : List Value} {i : Nat}, DenR w own xss l → i < xss.length → ∃ x, l[i]? = some x ∧ Den0 w own (rowAt xss i) x
  | _, 0, .cons h _, _ => ⟨_, rfl, by simpa [rowAt] using h⟩
  | _, i + 1, .cons _ hr, hi => by
    obtain ⟨x, h1, h2⟩ := DenR.get (i := i) hr (by simpa using hi)
    exact ⟨x, by simpa using h1, by simpa [rowAt] using h2⟩

theorem DenS.inv_one {v : SV} {r : List Seg} {l : List Value} (h : DenS w own ρ lh (.one v :: r) l) : ∃ x l2, l = x :: l2 ∧ Den w own ρ lh v x ∧ x.oneCell' = true ∧ DenS w own ρ lh r l2 := by
  cases h with
  | one hv h1 hr => exact ⟨_, _, rfl, hv, h1, hr⟩
  | seg hg hr => cases hg with
    | one hv h1 h0 => cases h0; exact ⟨_, _, rfl, .im hv, h1, hr⟩
theorem DenS.inv_seg {g : Seg} {r : List Seg} {l : List Value} (hn : ∀ v, g ≠ .one v) (h : DenS w own ρ lh (g :: r) l) : ∃ l1 l2, l = l1 ++ l2 ∧ DenS0 w own [g] l1 ∧ DenS w own ρ lh r l2 := by
  cases h with
  | one hv h1 hr => exact absurd rfl (hn _)
  | seg hg hr => exact ⟨_, _, rfl, hg, hr⟩

/-- A load off parts that lie in a block. -/
theorem load_rd1 {T : List TI} {t : Nat} (hT : TabOK P T) (hk : (ty T t).k ≠ .other) {b off base : Nat} {g : List Seg} (hg : Lies w own ρ lh b off g) {h : Nat → Option (List Seg)} {e : Eff} {rd : List Nat}
    (hok : (rd1 (ty T t) g base).Ok h e rd) : e.drop = [] ∧ e.set = [] ∧ e.new = [] ∧ rd = [] ∧ ∃ v, (Instr.loadAt t (.pointer (some ⟨b, off + base, none⟩))).run P w = .ok v w ∧ Den w own ρ lh e.v v := by
  have ht := hT.get hk
  unfold rd1 at hok
  split at hok
  · rename_i p r hs
    obtain ⟨_, h2⟩ := hg.split hs
    split at hok
    · rename_i hagg
      split at hok
      · rename_i m q hm
        obtain ⟨rfl, rfl⟩ := hok
        obtain ⟨⟨l, hd, hc⟩, _⟩ := h2.split hm
        refine ⟨rfl, rfl, rfl, rfl, _, run_load_var ht hagg (segSplit_size hd hm) hc, .agg hd⟩
      · exact hok.elim
    · rename_i hagg
      split at hok
      · rename_i v r'
        obtain ⟨rfl, rfl⟩ := hok
        obtain ⟨l, hd, hc⟩ := h2
        obtain ⟨x, l2, rfl, hv, _, _⟩ := hd.inv_one
        exact ⟨rfl, rfl, rfl, rfl, x, run_load_one ht (by simpa using hagg) (by simpa using hc 0 x rfl), hv⟩
      · exact hok.elim
  · exact hok.elim

theorem load_rdi {T : List TI} {t : Nat} (hT : TabOK P T) (hk : (ty T t).k ≠ .other) {b off base idx : Nat} {g : List Seg} (hg : Lies w own ρ lh b off g) {h : Nat → Option (List Seg)} {e : Eff} {rd : List Nat}
    (hok : (rdi (ty T t) g base idx).Ok h e rd) : e.drop = [] ∧ e.set = [] ∧ e.new = [] ∧ rd = [] ∧ ∃ v, (Instr.loadAt t (.pointer (some ⟨b, off + (base + idx), none⟩))).run P w = .ok v w ∧ Den w own ρ lh e.v v := by
  have ht := hT.get hk
  unfold rdi at hok
  split at hok
  · rename_i p r hs
    obtain ⟨_, l, hd, hc⟩ := hg.split hs
    have cell : ∀ x, l[idx]? = some x → w.cell? ⟨b, off + (base + idx), none⟩ = some x := fun x hx => by
      have := hc idx x hx; rwa [Nat.add_assoc] at this
    split at hok
    · rename_i hagg
      split at hok
      · rename_i n xs r'
        obtain ⟨hle, rfl, rfl⟩ := hok
        obtain ⟨l1, l2, rfl, hg1, _⟩ := hd.inv_seg (by intro v; simp)
        have hn : xs.length = n ∧ l1 = xs.map v8 := by
          cases hg1 with
          | b8s hn hr => cases hr; exact ⟨hn, by simp⟩
        obtain ⟨hn, rfl⟩ := hn
        have hlen : ((xs.drop idx).take (ty T t).size).length = (ty T t).size := by simp; omega
        refine ⟨rfl, rfl, rfl, rfl, _, run_load_var ht hagg (l := ((xs.drop idx).take (ty T t).size).map v8) (by simpa using hlen) (fun j x hj => ?_), .agg (DenS0.full (by
          have := DenS0.b8s (w := w) (own := own) hlen .nil
          rwa [List.append_nil] at this))⟩
        have hj' : j < (ty T t).size := by
          have := (List.getElem?_eq_some_iff.1 hj).1
          rw [List.length_map, hlen] at this
          exact this
        have := hc (idx + j) x (by
          rw [List.getElem?_append_left (by simp; omega)]
          rw [List.getElem?_map, List.getElem?_take, if_pos hj', List.getElem?_drop] at hj
          rw [List.getElem?_map]; exact hj)
        rw [show off + (base + idx) + j = off + base + (idx + j) by omega]
        exact this
      · exact hok.elim
    · rename_i hagg
      have hagg' : (ty T t).agg = false := by simpa using hagg
      split at hok
      · rename_i n xs r'
        obtain ⟨hlt, rfl, rfl⟩ := hok
        obtain ⟨l1, l2, rfl, hg1, _⟩ := hd.inv_seg (by intro v; simp)
        cases hg1 with
        | ints hn hr =>
          cases hr
          rw [List.append_nil] at cell
          exact ⟨rfl, rfl, rfl, rfl, _, run_load_one ht hagg' (cell _ (map_get vInt xs 0 l2 (by omega))), .im (.int _)⟩
      · rename_i n xs r'
        obtain ⟨hlt, rfl, rfl⟩ := hok
        obtain ⟨l1, l2, rfl, hg1, _⟩ := hd.inv_seg (by intro v; simp)
        cases hg1 with
        | b8s hn hr =>
          cases hr
          rw [List.append_nil] at cell
          exact ⟨rfl, rfl, rfl, rfl, _, run_load_one ht hagg' (cell _ (map_get v8 xs 0 l2 (by omega))), .im (.b8 _)⟩
      · rename_i n xs r'
        obtain ⟨hlt, rfl, rfl⟩ := hok
        obtain ⟨l1, l2, rfl, hg1, _⟩ := hd.inv_seg (by intro v; simp)
        cases hg1 with
        | b32s hn hr =>
          cases hr
          rw [List.append_nil] at cell
          exact ⟨rfl, rfl, rfl, rfl, _, run_load_one ht hagg' (cell _ (map_get v32 xs 0 l2 (by omega))), .im (.b32 _)⟩
      · rename_i n xss r'
        obtain ⟨hlt, rfl, rfl⟩ := hok
        obtain ⟨l1, l2, rfl, hg1, _⟩ := hd.inv_seg (by intro v; simp)
        cases hg1 with
        | rows hn hv hr =>
          cases hr
          rw [List.append_nil] at cell
          obtain ⟨x, hx, hdx⟩ := hv.get (i := idx) (by omega)
          exact ⟨rfl, rfl, rfl, rfl, _, run_load_one ht hagg' (cell x (by rw [List.getElem?_append_left (List.getElem?_eq_some_iff.1 hx).1]; exact hx)), .im hdx⟩
      · rename_i v0 r'
        split at hok
        · rename_i p' v q' hs'
          obtain ⟨rfl, rfl⟩ := hok
          obtain ⟨l1, l2, rfl, hl1, _, hd2⟩ := segSplit_den hd hs'
          obtain ⟨x, l3, rfl, hv, _, _⟩ := hd2.inv_one
          exact ⟨rfl, rfl, rfl, rfl, x, run_load_one ht hagg' (cell x (by rw [List.getElem?_append_right (by omega), show idx - l1.length = 0 by omega]; rfl)), hv⟩
        · exact hok.elim
      · exact hok.elim
  · exact hok.elim
end
end Go.SE
/- What an operation does to a state: the frame of all rules; stores and new blocks. -/
namespace Go.SE
open Go

/-- The world, with a value, has followed the effect. -/
def Does (X : Nat → Prop) (G : List (Nat × SV)) (s : St) (ρ : Rho) (lh : Lam) (w : World) (e : Eff) (fr : Nat) (v' : Value) (w' : World) : Prop :=
  ∃ ρ', SatH X G (s.eff e fr) ρ' lh w' ∧ Den w' (Own X (s.eff e fr) ρ' lh) ρ' lh e.v v' ∧ Goes s.next s.nh s (s.eff e fr) ρ ρ' lh lh w w' ∧
    ∀ id, ρ' id ≠ none → ρ id ≠ none ∨ (fr ≤ id ∧ id < fr + 8)

/-- The names from fr on are free. -/
def Free (s : St) (ρ : Rho) (fr : Nat) : Prop := fr + 8 ≤ s.next ∧ ∀ j, fr ≤ j → j < fr + 8 → ρ j = none

@[simp] theorem St.hd_dropAll (s : St) (l : List Nat) (L : Nat) : (s.dropAll l).hd L = s.hd L := by
  induction l generalizing s with
  | nil => rfl
  | cons x r ih => simp [St.dropAll, ih]
@[simp] theorem St.hd_setAll (s : St) (l : List (Nat × List Seg)) (L : Nat) : (s.setAll l).hd L = s.hd L := by
  induction l generalizing s with
  | nil => rfl
  | cons x r ih => obtain ⟨a, b⟩ := x; simp [St.setAll, ih]
@[simp] theorem St.next_dropAll (s : St) (l : List Nat) : (s.dropAll l).next = s.next := by
  induction l generalizing s with
  | nil => rfl
  | cons x r ih => simp [St.dropAll, ih, St.drop]
@[simp] theorem St.next_setAll (s : St) (l : List (Nat × List Seg)) : (s.setAll l).next = s.next := by
  induction l generalizing s with
  | nil => rfl
  | cons x r ih => obtain ⟨a, b⟩ := x; simp [St.setAll, ih, St.setBlk]
@[simp] theorem St.nh_dropAll (s : St) (l : List Nat) : (s.dropAll l).nh = s.nh := by
  induction l generalizing s with
  | nil => rfl
  | cons x r ih => simp [St.dropAll, ih, St.drop]
@[simp] theorem St.nh_setAll (s : St) (l : List (Nat × List Seg)) : (s.setAll l).nh = s.nh := by
  induction l generalizing s with
  | nil => rfl
  | cons x r ih => obtain ⟨a, b⟩ := x; simp [St.setAll, ih, St.setBlk]
@[simp] theorem St.tmps_dropAll (s : St) (l : List Nat) : (s.dropAll l).tmps = s.tmps := by
  induction l generalizing s with
  | nil => rfl
  | cons x r ih => simp [St.dropAll, ih, St.drop]
@[simp] theorem St.tmps_setAll (s : St) (l : List (Nat × List Seg)) : (s.setAll l).tmps = s.tmps := by
  induction l generalizing s with
  | nil => rfl
  | cons x r ih => obtain ⟨a, b⟩ := x; simp [St.setAll, ih, St.setBlk]
@[simp] theorem St.hd_eff (s : St) (e : Eff) (fr L : Nat) : (s.eff e fr).hd L = s.hd L := by simp [St.eff]
@[simp] theorem St.next_eff (s : St) (e : Eff) (fr : Nat) : (s.eff e fr).next = s.next := by simp [St.eff]
@[simp] theorem St.nh_eff (s : St) (e : Eff) (fr : Nat) : (s.eff e fr).nh = s.nh := by simp [St.eff]
@[simp] theorem St.tmps_eff (s : St) (e : Eff) (fr : Nat) : (s.eff e fr).tmps = s.tmps := by simp [St.eff]

section
variable {P : Program} {X : Nat → Prop} {G : List (Nat × SV)} {s : St} {ρ : Rho} {lh : Lam} {a : Act} {w : World} {fr : Nat}

theorem Stab.of_heap {w w' : World} (own : Nat → Prop) (h : w'.heap = w.heap) : Stab w own w' own := fun b o hb ho => ⟨by rw [h]; exact hb, ho⟩
/-- Nothing is said to the outside. -/
def Mute (w w' : World) : Prop := w'.os = w.os ∧ w'.output = w.output
theorem Mute.refl (w : World) : Mute w w := ⟨rfl, rfl⟩
theorem Mute.trans {w w' w'' : World} (h : Mute w w') (h' : Mute w' w'') : Mute w w'' := ⟨h'.1.trans h.1, h'.2.trans h.2⟩
theorem Goes.of_heap {w' : World} (h : w'.heap = w.heap) (hq : Mute w w') : Goes s.next s.nh s s ρ ρ lh lh w w' :=
  ⟨by rw [h]; exact Nat.le_refl _, fun _ _ hb _ => by rw [h]; exact hb, fun _ hb => .inl hb, fun _ _ _ h => h, fun _ _ _ h => h, hq⟩
theorem SatH.of_heap {w' : World} (hs : SatH X G s ρ lh w) (h : w'.heap = w.heap) (hq : Mute w w') : SatH X G s ρ lh w' :=
  hs.step (Goes.of_heap h hq) (fun _ => rfl) (fun _ _ e => .inl ⟨e, fun _ _ _ _ _ hb => by rw [h]; exact hb⟩) hs.inj hs.foreign hs.nxt (fun _ _ _ _ _ _ hb => by rw [h]; exact hb) rfl (Nat.le_refl _)

/-- A value alone. -/
theorem does_val (hs : SatH X G s ρ lh w) {sv : SV} {v : Value} (hv : Den w (Own X s ρ lh) ρ lh sv v) {w' : World} (hw : w'.heap = w.heap) (hq : Mute w w') : Does X G s ρ lh w ⟨sv, [], [], []⟩ fr v w' :=
  ⟨ρ, hs.of_heap hw hq, hv.stab (Stab.of_heap _ hw) (Le.refl _) (Le.refl _), Goes.of_heap hw hq, fun _ h => .inl h⟩

theorem Own.drop_sub {id b : Nat} (h : Own X (s.drop id) ρ lh b) : Own X s ρ lh b := by
  rcases h with h | ⟨i, segs, sz, h1, h2, h3⟩ | ⟨L, x, h1, h2⟩
  · exact .inl h
  · simp only [St.blk_drop] at h1
    split at h1
    · cases h1
    · exact .inr (.inl ⟨i, segs, sz, h1, h2, h3⟩)
  · exact .inr (.inr ⟨L, x, h1, h2⟩)
theorem SatH.dropAll (ids : List Nat) : ∀ {s : St}, SatH X G s ρ lh w → SatH X G (s.dropAll ids) ρ lh w ∧ Goes s.next s.nh s (s.dropAll ids) ρ ρ lh lh w w := by
  induction ids with
  | nil => intro s h; exact ⟨h, Ev.refl _ _ _ _ _ _⟩
  | cons id r ih =>
    intro s h
    obtain ⟨h1, h2⟩ := ih (h.drop id)
    exact ⟨h1, (Goes.drop id).trans h2 (Nat.le_refl _) (Nat.le_refl _)⟩
theorem does_drop (hs : SatH X G s ρ lh w) {sv : SV} {v : Value} {ids : List Nat} (hv : Den w (Own X (s.dropAll ids) ρ lh) ρ lh sv v) : Does X G s ρ lh w ⟨sv, ids, [], []⟩ fr v w :=
  have h := hs.dropAll ids
  ⟨ρ, h.1, hv, h.2, fun _ h => .inl h⟩

/-- A new block; names may be dropped before. -/
theorem does_new (hs : SatH X G s ρ lh w) (hf : Free s ρ fr) {sv : SV} {v : Value} {ids : List Nat} {g : List Seg} {cs : Array Value} {elem : TypeId} {w0 : World} (hw : w0.heap = w.heap) (hq : Mute w w0)
    (hd : DenS w (Own X (s.dropAll ids) ρ lh) ρ lh g cs.toList)
    (hv : ∀ w' ρ' own, ρ' fr = some (w.heap.size, cs.size) → Den w' own ρ' lh sv v) :
    Does X G s ρ lh w ⟨sv, ids, [], [g]⟩ fr v (w0.alloc (.cells cs elem)) := by
  obtain ⟨h1, h2⟩ := hs.dropAll ids
  have h3 := h1.of_heap hw hq
  have hr : ρ fr = none := hf.2 fr (Nat.le_refl _) (by omega)
  have hz : w0.heap.size = w.heap.size := by rw [hw]
  have h4 := h3.alloc (id := fr) hr (by simp; have := hf.1; omega) (cs := cs) (elem := elem) (hd.stab (Stab.of_heap _ hw) (Le.refl _) (Le.refl _))
  have h5 := Goes.alloc (s := s.dropAll ids) (lh := lh) (w := w0) hr (.cells cs elem) g cs.size
  refine ⟨ρ.upd fr (w0.heap.size, cs.size), h4, hv _ _ _ (by rw [← hz]; exact Rho.upd_same _ _ _), ?_, ?_⟩
  · have h6 : Goes s.next s.nh s (s.dropAll ids) ρ ρ lh lh w w0 := by
      have h7 := Goes.of_heap (s := s.dropAll ids) (ρ := ρ) (lh := lh) hw hq
      simp only [St.next_dropAll, St.nh_dropAll] at h7
      exact h2.trans h7 (Nat.le_refl _) (Nat.le_refl _)
    have := h6.trans h5 (by simp) (by simp)
    exact this
  · intro id hid
    by_cases hi : id = fr
    · exact .inr ⟨by omega, by omega⟩
    · rw [Rho.upd_other _ _ hi] at hid; exact .inl hid

/-- A block written. -/
theorem does_set (hs : SatH X G s ρ lh w) {id : Nat} {g g' : List Seg} {b sz : Nat} (hg : s.blk id = some g) (hr : ρ id = some (b, sz)) {cs' : Array Value} (hz : sz ≠ 0) (hcs : cs'.size = sz)
    (hd : DenS w (Own X s ρ lh) ρ lh g' cs'.toList) {v : Value} : Does X G s ρ lh w ⟨.any, [], [(id, g')], []⟩ fr v (w.setRow b cs') := by
  obtain ⟨h1, h2⟩ := hs.write hg hr hz hcs hd
  exact ⟨ρ, h1, .im (.any _), h2, fun _ h => .inl h⟩

/-! ### What a pointer reaches -/
/-- An owned block's parts lie in the world. -/
theorem SatH.lies (hs : SatH X G s ρ lh w) {id : Nat} {g : List Seg} {b sz : Nat} (hg : s.blk id = some g) (hr : ρ id = some (b, sz)) : Lies w (Own X s ρ lh) ρ lh b 0 g := by
  obtain ⟨b', sz', e, l, hd, hl, hb⟩ := hs.blk id g hg
  rw [hr] at e; cases e
  refine ⟨l, hd, fun j x hj => ?_⟩
  have hlt := (List.getElem?_eq_some_iff.1 hj).1
  obtain ⟨cs, elem, h1, h2⟩ := hb (by omega)
  subst h2
  simp only [World.cell?, h1]
  simpa using hj
theorem lies_ip {o : List Seg} {b off : Nat} {cs : Array Value} {elem : TypeId} {f : Nat × Nat} {l : List Value} {own : Nat → Prop} (hb : w.heap[b]? = some (.cells cs elem f)) (hl : DenS0 w own o l) (hp : liesAt cs off l) :
    Lies w own ρ lh b off o := ⟨l, hl.full, fun _ _ hj => cell_of_lies hb hp hj⟩

theorem load_sound {T : List TI} {t : Nat} (hT : TabOK P T) (hk : (ty T t).k ≠ .other) (hs : SatH X G s ρ lh w) {sv : SV} {v : Value} (hv : Den w (Own X s ρ lh) ρ lh sv v) {e : Eff} {rd : List Nat}
    (hok : (loadT (ty T t) sv).Ok s.blk e rd) : ∃ v', (Instr.loadAt t v).run P w = .ok v' w ∧ Does X G s ρ lh w e fr v' w := by
  cases sv <;> simp only [loadT] at hok <;> try exact hok.elim
  case ptr id base =>
    obtain ⟨g, rd', hg, _, hok⟩ := hok
    cases hv with
    | im h0 => cases h0
    | ptr hr =>
      have := load_rd1 hT hk (hs.lies hg hr) hok
      simp only [Nat.zero_add] at this
      obtain ⟨h1, h2, h3, _, v', hv', hd⟩ := this
      obtain ⟨ev, ed, es, en⟩ := e
      simp only at h1 h2 h3
      subst h1 h2 h3
      exact ⟨v', hv', does_val hs hd rfl ⟨rfl, rfl⟩⟩
  case ptri id base idx =>
    obtain ⟨g, rd', hg, _, hok⟩ := hok
    cases hv with
    | im h0 => cases h0
    | ptri hr =>
      have := load_rdi hT hk (hs.lies hg hr) hok
      simp only [Nat.zero_add] at this
      obtain ⟨h1, h2, h3, _, v', hv', hd⟩ := this
      obtain ⟨ev, ed, es, en⟩ := e
      simp only at h1 h2 h3
      subst h1 h2 h3
      exact ⟨v', hv', does_val hs hd rfl ⟨rfl, rfl⟩⟩
  case ip o base =>
    cases hv with
    | im h0 =>
      cases h0 with
      | ip hb ho hl hp =>
        obtain ⟨h1, h2, h3, _, v', hv', hd⟩ := load_rd1 (ρ := ρ) (lh := lh) hT hk (lies_ip hb hl hp) hok
        obtain ⟨ev, ed, es, en⟩ := e
        simp only at h1 h2 h3
        subst h1 h2 h3
        exact ⟨v', hv', does_val hs hd rfl ⟨rfl, rfl⟩⟩
  case ipi o base idx =>
    cases hv with
    | im h0 =>
      cases h0 with
      | ipi hb ho hl hp =>
        obtain ⟨h1, h2, h3, _, v', hv', hd⟩ := load_rdi (ρ := ρ) (lh := lh) hT hk (lies_ip hb hl hp) hok
        obtain ⟨ev, ed, es, en⟩ := e
        simp only at h1 h2 h3
        subst h1 h2 h3
        exact ⟨v', hv', does_val hs hd rfl ⟨rfl, rfl⟩⟩

/-! ### Stores -/
/-- The value takes one cell. -/
def SV.cell1 : SV → Bool
  | .any | .agg _ | .tup _ => false
  | _ => true
theorem Den.cell1 {own : Nat → Prop} {sv : SV} {v : Value} (h : Den w own ρ lh sv v) (h1 : sv.cell1 = true) : v.oneCell' = true ∧ v.cells = #[v] := by
  cases h with
  | im h0 => cases h0 <;> first | exact ⟨rfl, rfl⟩ | simp [SV.cell1] at h1
  | agg _ => simp [SV.cell1] at h1
  | tup _ => simp [SV.cell1] at h1
  | _ => exact ⟨rfl, rfl⟩
theorem DenS0.oneCell {o : List Seg} : ∀ {l : List Value} {own : Nat → Prop}, DenS0 w own o l → ∀ x ∈ l, x.oneCell' = true := by
  induction o with
  | nil => intro l own h; cases h; simp
  | cons g r ih =>
    intro l own h
    cases h with
    | one hv h1 hr => intro x hx; rcases List.mem_cons.1 hx with rfl | hx; exact h1; exact ih hr x hx
    | ints hn hr => intro x hx; rcases List.mem_append.1 hx with hx | hx; · obtain ⟨y, _, rfl⟩ := List.mem_map.1 hx; rfl
                    exact ih hr x hx
    | b8s hn hr => intro x hx; rcases List.mem_append.1 hx with hx | hx; · obtain ⟨y, _, rfl⟩ := List.mem_map.1 hx; rfl
                   exact ih hr x hx
    | b32s hn hr => intro x hx; rcases List.mem_append.1 hx with hx | hx; · obtain ⟨y, _, rfl⟩ := List.mem_map.1 hx; rfl
                    exact ih hr x hx
    | rows hn hv hr =>
      intro x hx
      rcases List.mem_append.1 hx with hx | hx
      · have rowCell : ∀ {xss : List (List (BitVec 8))} {vs : List Value}, DenR w own xss vs → ∀ x ∈ vs, x.oneCell' = true := by
          intro xss
          induction xss with
          | nil => intro vs h; cases h; simp
          | cons y ys ih2 =>
            intro vs h
            cases h with
            | cons hy hys => intro x hx; rcases List.mem_cons.1 hx with rfl | hx; · cases hy; rfl
                             exact ih2 hys x hx
        exact rowCell hv x hx
      · exact ih hr x hx
    | spare hl => exact hl
theorem DenS.oneCell {o : List Seg} : ∀ {l : List Value} {own : Nat → Prop}, DenS w own ρ lh o l → ∀ x ∈ l, x.oneCell' = true := by
  induction o with
  | nil => intro l own h; cases h; simp
  | cons g r ih =>
    intro l own h
    cases h with
    | one hv h1 hr => intro x hx; rcases List.mem_cons.1 hx with rfl | hx; exact h1; exact ih hr x hx
    | seg hg hr => intro x hx; rcases List.mem_append.1 hx with hx | hx; exact hg.oneCell x hx; exact ih hr x hx

theorem run_storeCells_mid (b : Nat) (t : TypeId) (o : Nat) : ∀ (vs : List Value) (i : Nat) (cur : Array Value) (w : World), w.heap[b]? = some (.cells cur t (0, 0)) → o + i + vs.length ≤ cur.size → (∀ v ∈ vs, v.oneCell' = true) →
    (storeCells ⟨b, o, none⟩ vs i).run P w = .ok () (w.setRow b (cur.toList.take (o + i) ++ vs ++ cur.toList.drop (o + i + vs.length)).toArray)
  | [], i, cur, w, hb, hl, _ => by
    have hlt : b < w.heap.size := (Array.getElem?_eq_some_iff.1 hb).1
    have hv : w.heap[b] = .cells cur t (0, 0) := (Array.getElem?_eq_some_iff.1 hb).2
    simp only [storeCells, List.append_nil, List.length_nil, Nat.add_zero, List.take_append_drop, Array.toArray_toList]
    show Result.ok () w = _
    congr 1
    unfold World.setRow
    cases w with
    | mk heap tape drawn os output =>
      congr 1
      apply Array.ext
      · simp
      · intro k h1 h2
        simp only [Array.getElem_modify]
        split
        · rename_i hk; subst hk; simp at hv; simp [hv]
        · rfl
  | v :: rest, i, cur, w, hb, hl, h1 => by
    have hi : o + i < cur.size := by simp at hl; omega
    have hcell : w.cell? ⟨b, o + i, none⟩ = some cur[o + i] := by simp [World.cell?, hb, hi]
    have hfro : w.frozen? ⟨b, o + i, none⟩ = false := by simp [World.frozen?, hb]
    have hst : (store ((⟨b, o, none⟩ : Addr).add i) v).run P w = .ok () (w.setRow b (cur.setIfInBounds (o + i) v)) := by
      rw [add_zero_spot, run_store P w _ v _ (h1 v (by simp)), hcell]
      simp [hfro, setCell_eq_setRow w b (o + i) cur t (0, 0) v hb]
    have ih := run_storeCells_mid b t o rest (i + 1) (cur.setIfInBounds (o + i) v) (w.setRow b (cur.setIfInBounds (o + i) v)) (setRow_heap w b cur _ t _ hb) (by simp at hl ⊢; omega) (fun x hx => h1 x (by simp [hx]))
    simp only [storeCells, Sem.run_bind, hst, Result.andThen_ok, ih, setRow_setRow]
    congr 3
    simp only [Array.toList_setIfInBounds, List.length_cons]
    rw [show o + (i + 1) = o + i + 1 by omega, show o + i + 1 + rest.length = o + i + (rest.length + 1) by omega]
    rw [List.take_set, List.take_succ_eq_append_getElem (by simpa using hi), List.drop_set_of_lt (by omega)]
    simp [Nat.min_eq_left (Nat.le_of_lt hi)]

theorem run_storeVar_mid {ti : TI} {t : Nat} (ht : TIok P t ti) {b o : Nat} {elem : TypeId} {cur : Array Value} {v : Value} (hb : w.heap[b]? = some (.cells cur elem (0, 0))) (hz : v.cells.size = ti.size) (ho : o + v.cells.size ≤ cur.size)
    (h1 : ∀ x ∈ v.cells.toList, x.oneCell' = true) :
    (Instr.storeAt t (.pointer (some ⟨b, o, none⟩)) v).run P w = .ok () (w.setRow b (cur.toList.take o ++ v.cells.toList ++ cur.toList.drop (o + v.cells.size)).toArray) := by
  have := run_storeCells_mid (P := P) b elem o v.cells.toList 0 cur w hb (by simpa using ho) h1
  simp only [Nat.add_zero, Array.length_toList] at this
  simp only [Instr.storeAt, Instr.sureAddr, storeVar, Sem.run_bind, Sem.run_pure, Result.andThen_ok, ht.run_sizeOf, hz, ne_eq, not_true_eq_false, if_false]
  rw [this, hz]

end

/-- A part of a block, written. -/
def sizeIs (m : List Seg) (n : Nat) : Bool := match segSplit m n with
  | some (_, []) => true
  | _ => false
def wr1 (ti : TI) (id : Nat) (g : List Seg) (base : Nat) (v : SV) : Tr := match segSplit g base with
  | some (p, r) => match ti.agg with
    | true => match v with
      | .agg m => match sizeIs m ti.size, segSplit r ti.size with
        | true, some (_, q) => .done ⟨.any, [], [(id, p ++ (m ++ q))], []⟩
        | _, _ => .fail
      | _ => .fail
    | false => match r with
      | .one _ :: q => match v.cell1 with
        | true => .done ⟨.any, [], [(id, p ++ (.one v :: q))], []⟩
        | false => .fail
      | _ => .fail
  | none => .fail
def wri (ti : TI) (id : Nat) (g : List Seg) (base idx : Nat) (v : SV) : Tr := match segSplit g base with
  | some (p, r) => match ti.agg with
    | true => .fail
    | false => match r, v with
      | .ints n xs :: q, .int y => .vc (idx < n) (.done ⟨.any, [], [(id, p ++ (.ints n (xs.set idx y) :: q))], []⟩)
      | .b8s n xs :: q, .b8 y => .vc (idx < n) (.done ⟨.any, [], [(id, p ++ (.b8s n (xs.set idx y) :: q))], []⟩)
      | .b32s n xs :: q, .b32 y => .vc (idx < n) (.done ⟨.any, [], [(id, p ++ (.b32s n (xs.set idx y) :: q))], []⟩)
      | .one _ :: _, _ => match segSplit r idx with
        | some (p2, .one _ :: q) => match v.cell1 with
          | true => .done ⟨.any, [], [(id, p ++ (p2 ++ (.one v :: q)))], []⟩
          | false => .fail
        | _ => .fail
      | _, _ => .fail
  | none => .fail
def storeT (ti : TI) (x v : SV) : Tr := match x with
  | .ptr id base => .blk id fun g => wr1 ti id g base v
  | .ptri id base idx => .blk id fun g => wri ti id g base idx v
  | _ => .fail

section
variable {P : Program} {X : Nat → Prop} {G : List (Nat × SV)} {s : St} {ρ : Rho} {lh : Lam} {a : Act} {w : World} {fr : Nat}

theorem sizeIs_den {own : Nat → Prop} {m : List Seg} {n : Nat} {l : List Value} (h : DenS w own ρ lh m l) (e : sizeIs m n = true) : l.length = n := by
  unfold sizeIs at e
  split at e
  · rename_i p hs
    obtain ⟨l1, l2, rfl, h1, _, h3⟩ := segSplit_den h hs
    cases h3
    simpa using h1
  · cases e

/-- The owned block, with its row. -/
theorem SatH.row (hs : SatH X G s ρ lh w) {id : Nat} {g : List Seg} {b sz : Nat} (hg : s.blk id = some g) (hr : ρ id = some (b, sz)) (hz : sz ≠ 0) :
    ∃ cs elem, w.heap[b]? = some (.cells cs elem (0, 0)) ∧ cs.size = sz ∧ DenS w (Own X s ρ lh) ρ lh g cs.toList := by
  obtain ⟨b', sz', e, l, hd, hl, hb⟩ := hs.blk id g hg
  rw [hr] at e; cases e
  obtain ⟨cs, elem, h1, h2⟩ := hb hz
  exact ⟨cs, elem, h1, by rw [← Array.length_toList, h2, hl], by rw [h2]; exact hd⟩

theorem store_mid {T : List TI} {t : Nat} (hT : TabOK P T) (hk : (ty T t).k ≠ .other) (hs : SatH X G s ρ lh w) {id : Nat} {g g' : List Seg} {b sz : Nat} (hg : s.blk id = some g) (hr : ρ id = some (b, sz)) {v : Value} {o : Nat}
    (hvz : v.cells.size = (ty T t).size) (hv1 : ∀ x ∈ v.cells.toList, x.oneCell' = true) (hpos : v.cells.size ≠ 0)
    (hd : ∀ l, DenS w (Own X s ρ lh) ρ lh g l → o + v.cells.size ≤ l.length ∧ DenS w (Own X s ρ lh) ρ lh g' (l.take o ++ v.cells.toList ++ l.drop (o + v.cells.size))) :
    ∃ w', (Instr.storeAt t (.pointer (some ⟨b, o, none⟩)) v).run P w = .ok () w' ∧ Does X G s ρ lh w ⟨.any, [], [(id, g')], []⟩ fr undef w' := by
  have hz : sz ≠ 0 := by
    obtain ⟨b', sz', e, l, hd', hl, _⟩ := hs.blk id g hg
    rw [hr] at e; cases e
    have := (hd l hd').1
    omega
  obtain ⟨cs, elem, hb, hcs, hden⟩ := hs.row hg hr hz
  obtain ⟨hle, hden'⟩ := hd _ hden
  refine ⟨_, run_storeVar_mid (hT.get hk) hb hvz (by simpa using hle) hv1, does_set hs hg hr hz ?_ (by simpa using hden')⟩
  have : o + v.cells.size ≤ cs.size := by simpa using hle
  simp
  omega

theorem splice_mid {l1 l2 l3 l2' : List Value} (h : l2.length = l2'.length) : (l1 ++ (l2 ++ l3)).take l1.length ++ l2' ++ (l1 ++ (l2 ++ l3)).drop (l1.length + l2'.length) = l1 ++ (l2' ++ l3) := by
  rw [List.take_left', List.drop_append, List.append_assoc]
  · congr 2
    rw [List.drop_eq_nil_of_le (by omega), List.nil_append, show l1.length + l2'.length - l1.length = l2.length by omega, List.drop_left]
  · rfl

theorem set_map {α : Type} (f : α → Value) (xs : List α) (y : α) (l : List Value) {i : Nat} (hi : i < xs.length) :
    (xs.map f ++ l).take i ++ [f y] ++ (xs.map f ++ l).drop (i + 1) = (xs.set i y).map f ++ l := by
  have h1 : (xs.map f ++ l).take i = (xs.take i).map f := by rw [List.take_append_of_le_length (by simp; omega), List.map_take]
  have h2 : (xs.map f ++ l).drop (i + 1) = (xs.drop (i + 1)).map f ++ l := by rw [List.drop_append_of_le_length (by simp; omega), List.map_drop]
  rw [h1, h2, List.set_eq_take_append_cons_drop, if_pos hi]
  simp

theorem store_sound {T : List TI} {t : Nat} (hT : TabOK P T) (hk : (ty T t).k ≠ .other) (hz0 : (ty T t).size ≠ 0) (hs : SatH X G s ρ lh w) {sx sv : SV} {x v : Value} (hx : Den w (Own X s ρ lh) ρ lh sx x)
    (hv : Den w (Own X s ρ lh) ρ lh sv v) {e : Eff} {rd : List Nat} (hok : (storeT (ty T t) sx sv).Ok s.blk e rd) : ∃ w', (Instr.storeAt t x v).run P w = .ok () w' ∧ Does X G s ρ lh w e fr undef w' := by
  have hz1 := (hT.get hk).one
  cases sx <;> simp only [storeT] at hok <;> try exact hok.elim
  case ptr id base =>
    obtain ⟨g, rd', hg, _, hok⟩ := hok
    cases hx with
    | im h0 => cases h0
    | ptr hr =>
      change (wr1 (ty T t) id g base sv).Ok s.blk e rd' at hok
      unfold wr1 at hok
      split at hok
      · rename_i p r hsp
        split at hok
        · rename_i hagg
          split at hok
          · rename_i m
            split at hok
            · rename_i q0 q hm hsr
              obtain ⟨rfl, rfl⟩ := hok
              obtain ⟨lm, rfl, hlm⟩ : ∃ lm, v = .agg lm.toArray ∧ DenS w (Own X s ρ lh) ρ lh m lm := by
                cases hv with
                | im h0 => cases h0 with
                  | agg h => exact ⟨_, rfl, h.full⟩
                | agg h => exact ⟨_, rfl, h⟩
              have hz := sizeIs_den hlm hm
              refine store_mid hT hk hs hg hr (by simpa [Value.cells] using hz) (by simpa [Value.cells] using hlm.oneCell) (by have : (Value.agg lm.toArray).cells.size = lm.length := (by simp [Value.cells]); omega) fun l hl => ?_
              obtain ⟨l1, l2, rfl, h1, h2, h3⟩ := segSplit_den hl hsp
              obtain ⟨l3, l4, rfl, h4, h5, h6⟩ := segSplit_den h3 hsr
              subst h1
              have hsz : (Value.agg lm.toArray).cells.size = lm.length := by simp [Value.cells]
              rw [hsz]
              refine ⟨by simp; omega, ?_⟩
              have := splice_mid (l1 := l1) (l2 := l3) (l3 := l4) (l2' := lm) (by omega)
              simp only [Value.cells]
              rw [this]
              exact h2.append (hlm.append h6)
            · exact hok.elim
          · exact hok.elim
        · rename_i hagg
          split at hok
          · rename_i v0 q
            split at hok
            · rename_i hc1
              obtain ⟨rfl, rfl⟩ := hok
              obtain ⟨hv1, hvc⟩ := hv.cell1 hc1
              refine store_mid hT hk hs hg hr (by rw [hvc]; simp [hz1 (by simpa using hagg)]) (by rw [hvc]; simpa using hv1) (by rw [hvc]; simp) fun l hl => ?_
              obtain ⟨l1, l2, rfl, h1, h2, h3⟩ := segSplit_den hl hsp
              obtain ⟨y, l4, rfl, _, _, h6⟩ := h3.inv_one
              subst h1
              rw [hvc]
              refine ⟨by simp, ?_⟩
              have := splice_mid (l1 := l1) (l2 := [y]) (l3 := l4) (l2' := [v]) rfl
              simp only [List.size_toArray, List.length_cons, List.length_nil] at this ⊢
              rw [show (y :: l4) = [y] ++ l4 from rfl, this]
              exact h2.append (.one hv hv1 h6)
            · exact hok.elim
          · exact hok.elim
      · exact hok.elim
  case ptri id base idx =>
    obtain ⟨g, rd', hg, _, hok⟩ := hok
    cases hx with
    | im h0 => cases h0
    | @ptri _ _ _ blk _ hr =>
      change (wri (ty T t) id g base idx sv).Ok s.blk e rd' at hok
      unfold wri at hok
      split at hok
      · rename_i p r hsp
        split at hok
        · exact hok.elim
        · rename_i hagg
          have hone := hz1 (by simpa using hagg)
          have typed : ∀ {α : Type} (f : α → Value) (xs : List α) (y : α) (n : Nat) (q : List Seg) (g1 g2 : Seg), (∀ y, (f y).cells = #[f y]) → (∀ y, (f y).oneCell' = true) → r = g1 :: q → v = f y → idx < n →
              (∀ l, DenS w (Own X s ρ lh) ρ lh (g1 :: q) l → ∃ l2, l = xs.map f ++ l2 ∧ xs.length = n ∧ DenS w (Own X s ρ lh) ρ lh q l2) →
              (xs.length = n → DenS0 w (Own X s ρ lh) [g2] ((xs.set idx y).map f)) →
              ∃ w', (Instr.storeAt t (.pointer (some ⟨blk, base + idx, none⟩)) v).run P w = .ok () w' ∧ Does X G s ρ lh w ⟨.any, [], [(id, p ++ (g2 :: q))], []⟩ fr undef w' := by
            intro α f xs y n q g1 g2 hfc hf1 hrq hvy hlt hinv hden
            subst hvy
            refine store_mid hT hk hs hg hr (by rw [hfc]; simp [hone]) (by rw [hfc]; simpa using hf1 y) (by rw [hfc]; simp) fun l hl => ?_
            obtain ⟨l1, l2, rfl, h1, h2, h3⟩ := segSplit_den hl hsp
            rw [hrq] at h3
            obtain ⟨l3, rfl, hn, h4⟩ := hinv _ h3
            subst h1
            rw [hfc]
            refine ⟨by simp; omega, ?_⟩
            have hs2 := set_map f xs y l3 (i := idx) (by omega)
            have e1 : (l1 ++ (xs.map f ++ l3)).take (l1.length + idx) = l1 ++ (xs.map f ++ l3).take idx := by rw [List.take_append, List.take_of_length_le (by omega)]; simp
            have e2 : (l1 ++ (xs.map f ++ l3)).drop (l1.length + idx + 1) = (xs.map f ++ l3).drop (idx + 1) := by
              rw [List.drop_append, List.drop_eq_nil_of_le (by omega), List.nil_append]; congr 1; omega
            simp only [List.size_toArray, List.length_cons, List.length_nil, Nat.zero_add]
            rw [e1, e2, List.append_assoc, List.append_assoc, ← List.append_assoc (List.take idx _), hs2]
            exact h2.append (.seg (hden hn) h4)
          split at hok
          · rename_i n xs q y
            obtain ⟨hlt, rfl, rfl⟩ := hok
            obtain rfl : v = vInt y := by cases hv with | im h0 => cases h0; rfl
            refine typed vInt xs y n q _ _ (fun _ => rfl) (fun _ => rfl) rfl rfl hlt (fun l hl => ?_) (fun hn => by
              have := DenS0.ints (w := w) (own := Own X s ρ lh) (n := n) (xs := xs.set idx y) (by simpa using hn) .nil
              rwa [List.append_nil] at this)
            obtain ⟨l1, l2, rfl, h1, h2⟩ := hl.inv_seg (by intro v; simp)
            cases h1 with
            | ints hn hr => cases hr; exact ⟨l2, by simp, hn, h2⟩
          · rename_i n xs q y
            obtain ⟨hlt, rfl, rfl⟩ := hok
            obtain rfl : v = v8 y := by cases hv with | im h0 => cases h0; rfl
            refine typed v8 xs y n q _ _ (fun _ => rfl) (fun _ => rfl) rfl rfl hlt (fun l hl => ?_) (fun hn => by
              have := DenS0.b8s (w := w) (own := Own X s ρ lh) (n := n) (xs := xs.set idx y) (by simpa using hn) .nil
              rwa [List.append_nil] at this)
            obtain ⟨l1, l2, rfl, h1, h2⟩ := hl.inv_seg (by intro v; simp)
            cases h1 with
            | b8s hn hr => cases hr; exact ⟨l2, by simp, hn, h2⟩
          · rename_i n xs q y
            obtain ⟨hlt, rfl, rfl⟩ := hok
            obtain rfl : v = v32 y := by cases hv with | im h0 => cases h0; rfl
            refine typed v32 xs y n q _ _ (fun _ => rfl) (fun _ => rfl) rfl rfl hlt (fun l hl => ?_) (fun hn => by
              have := DenS0.b32s (w := w) (own := Own X s ρ lh) (n := n) (xs := xs.set idx y) (by simpa using hn) .nil
              rwa [List.append_nil] at this)
            obtain ⟨l1, l2, rfl, h1, h2⟩ := hl.inv_seg (by intro v; simp)
            cases h1 with
            | b32s hn hr => cases hr; exact ⟨l2, by simp, hn, h2⟩
          · rename_i v0 r'
            split at hok
            · rename_i p2 v1 q hsp2
              split at hok
              · rename_i hc1
                obtain ⟨rfl, rfl⟩ := hok
                obtain ⟨hv1, hvc⟩ := hv.cell1 hc1
                refine store_mid hT hk hs hg hr (by rw [hvc]; simp [hone]) (by rw [hvc]; simpa using hv1) (by rw [hvc]; simp) fun l hl => ?_
                obtain ⟨l1, l2, rfl, h1, h2, h3⟩ := segSplit_den hl hsp
                obtain ⟨l5, l6, rfl, h5, h6, h7⟩ := segSplit_den h3 hsp2
                obtain ⟨y, l4, rfl, _, _, h8⟩ := h7.inv_one
                subst h1 h5
                rw [hvc]
                refine ⟨by simp; omega, ?_⟩
                have := splice_mid (l1 := l1 ++ l5) (l2 := [y]) (l3 := l4) (l2' := [v]) rfl
                simp only [List.length_append, List.size_toArray, List.length_cons, List.length_nil] at this ⊢
                rw [show l1 ++ (l5 ++ (y :: l4)) = l1 ++ l5 ++ ([y] ++ l4) by simp, this, List.append_assoc]
                exact h2.append (h6.append (.one hv hv1 h8))
              · exact hok.elim
            · exact hok.elim
          · exact hok.elim
      · exact hok.elim
end
end Go.SE
/- Arithmetic, comparisons, conversions. -/
namespace Go.SE
open Go

/-! ### Numbers -/
theorem wrap_nat {k : IntKind} (h : k.signed = false) (z : Int) : k.wrap z = z % (2 ^ k.bits : Int) := by
  simp [IntKind.wrap, h]
theorem wrap_bv {k : IntKind} (h : k.signed = false) (z : Int) : k.wrap z = ((BitVec.ofInt k.bits z).toNat : Int) := by
  have h0 : (0 : Int) < 2 ^ k.bits := Int.pow_pos (by decide)
  rw [wrap_nat h, BitVec.toNat_ofInt, Int.toNat_of_nonneg (Int.emod_nonneg _ (by have := Nat.two_pow_pos k.bits; omega))]
  simp
theorem ofInt_toNat {n : Nat} (x : BitVec n) : BitVec.ofInt n (x.toNat : Int) = x := by
  rw [BitVec.ofInt_natCast, BitVec.ofNat_toNat, BitVec.setWidth_eq]
theorem bv_add {k : IntKind} (h : k.signed = false) (x y : BitVec k.bits) : k.wrap ((x.toNat : Int) + y.toNat) = ((x + y).toNat : Int) := by
  rw [wrap_bv h, BitVec.ofInt_add, ofInt_toNat, ofInt_toNat]
theorem bv_sub {k : IntKind} (h : k.signed = false) (x y : BitVec k.bits) : k.wrap ((x.toNat : Int) - y.toNat) = ((x - y).toNat : Int) := by
  rw [wrap_bv h, Int.sub_eq_add_neg, BitVec.ofInt_add, BitVec.ofInt_neg, ofInt_toNat, ofInt_toNat, BitVec.sub_eq_add_neg]
theorem bv_mul {k : IntKind} (h : k.signed = false) (x y : BitVec k.bits) : k.wrap ((x.toNat : Int) * y.toNat) = ((x * y).toNat : Int) := by
  rw [wrap_bv h, BitVec.ofInt_mul, ofInt_toNat, ofInt_toNat]
theorem bv_shl {k : IntKind} (h : k.signed = false) (x : BitVec k.bits) (c : Nat) : k.wrap ((x.toNat : Int) * 2 ^ min c k.bits) = ((x <<< c).toNat : Int) := by
  rw [wrap_nat h, BitVec.toNat_shiftLeft, Nat.shiftLeft_eq]
  have e : ((x.toNat : Int) * 2 ^ min c k.bits) % 2 ^ k.bits = ((x.toNat * 2 ^ min c k.bits % 2 ^ k.bits : Nat) : Int) := by simp
  rw [e]
  congr 1
  by_cases hc : c ≤ k.bits
  · rw [Nat.min_eq_left hc]
  · rw [Nat.min_eq_right (by omega), show c = k.bits + (c - k.bits) by omega, Nat.pow_add, ← Nat.mul_assoc, Nat.mul_mod_left, Nat.mul_assoc, Nat.mul_comm (2 ^ k.bits), ← Nat.mul_assoc, Nat.mul_mod_left]
theorem bv_shr {k : IntKind} (x : BitVec k.bits) (c : Nat) : (x.toNat : Int).fdiv (2 ^ min c k.bits) = ((x >>> c).toNat : Int) := by
  rw [BitVec.toNat_ushiftRight, Nat.shiftRight_eq_div_pow]
  have e : ((x.toNat : Int).fdiv (2 ^ min c k.bits)) = ((x.toNat / 2 ^ min c k.bits : Nat) : Int) := by
    rw [Int.fdiv_eq_ediv_of_nonneg _ (Int.le_of_lt (Int.pow_pos (by decide)))]; simp
  rw [e]
  congr 1
  by_cases hc : c ≤ k.bits
  · rw [Nat.min_eq_left hc]
  · rw [Nat.min_eq_right (by omega), Nat.div_eq_of_lt x.isLt, Nat.div_eq_of_lt (Nat.lt_of_lt_of_le x.isLt (Nat.pow_le_pow_right (by decide) (by omega)))]
theorem bv_wrap {k : IntKind} (h : k.signed = false) (x : BitVec k.bits) : k.wrap (x.toNat : Int) = (x.toNat : Int) := by
  rw [wrap_bv h, ofInt_toNat]
theorem bv_quo {k : IntKind} (h : k.signed = false) (x y : BitVec k.bits) : k.wrap ((x.toNat : Int).tdiv y.toNat) = ((x / y).toNat : Int) := by
  rw [← Int.ofNat_tdiv, BitVec.toNat_udiv, ← BitVec.toNat_udiv, bv_wrap h]
theorem bv_rem {k : IntKind} (x y : BitVec k.bits) : ((x.toNat : Int).tmod y.toNat) = ((x % y).toNat : Int) := by
  rw [← Int.ofNat_tmod, BitVec.toNat_umod]

theorem int_beq (a b : Int) : (a == b) = decide (a = b) := by by_cases h : a = b <;> simp [h]

def inI64 (n : Int) : Prop := -9223372036854775808 ≤ n ∧ n ≤ 9223372036854775807
theorem i64_in {n : Int} (h : inI64 n) : IntKind.i64.wrap n = n := by
  obtain ⟨h1, h2⟩ := h
  rw [IntKind.wrap_i64]; omega

/-- A shift's count. -/
def countT (y : SV) (k : Nat → Tr) : Tr := match y with
  | .b64 c => k c.toNat
  | .b8 c => k c.toNat
  | .int c => .vc (0 ≤ c) (k c.toNat)
  | _ => .fail

def vB (b : Bool) : Tr := .val (.bool b)
def arithInt (op : BinOp) (a b : Int) : Tr := match op with
  | .add => .vc (inI64 (a + b)) (.val (.int (a + b)))
  | .sub => .vc (inI64 (a - b)) (.val (.int (a - b)))
  | .mul => .vc (inI64 (a * b)) (.val (.int (a * b)))
  | .quo => .vc (0 ≤ a ∧ a ≤ 9223372036854775807 ∧ 0 < b) (.val (.int (a / b)))
  | .rem => .vc (0 ≤ a ∧ 0 < b) (.val (.int (a % b)))
  | .and => .vc ((0 ≤ a ∧ a ≤ 9223372036854775807) ∧ 0 ≤ b ∧ b ≤ 9223372036854775807) (.val (.int ((a.toNat &&& b.toNat : Nat) : Int)))
  | .or => .vc ((0 ≤ a ∧ a ≤ 9223372036854775807) ∧ 0 ≤ b ∧ b ≤ 9223372036854775807) (.val (.int ((a.toNat ||| b.toNat : Nat) : Int)))
  | .xor => .vc ((0 ≤ a ∧ a ≤ 9223372036854775807) ∧ 0 ≤ b ∧ b ≤ 9223372036854775807) (.val (.int ((a.toNat ^^^ b.toNat : Nat) : Int)))
  | .eql => vB (decide (a = b))
  | .neq => vB (!decide (a = b))
  | .lss => vB (decide (a < b))
  | .leq => vB (decide (a ≤ b))
  | .gtr => vB (decide (b < a))
  | .geq => vB (decide (b ≤ a))
  | _ => .fail
def shiftInt (op : BinOp) (a : Int) (c : Nat) : Tr := match op with
  | .shl => .vc (c < 64 ∧ inI64 (a * 2 ^ c)) (.val (.int (a * 2 ^ c)))
  | .shr => .vc (c < 64) (.val (.int (a / 2 ^ c)))
  | _ => .fail
def arithBV {n : Nat} (mk : BitVec n → SV) (op : BinOp) (a b : BitVec n) : Tr := match op with
  | .add => .val (mk (a + b))
  | .sub => .val (mk (a - b))
  | .mul => .val (mk (a * b))
  | .quo => .vc (b.toNat ≠ 0) (.val (mk (a / b)))
  | .rem => .vc (b.toNat ≠ 0) (.val (mk (a % b)))
  | .and => .val (mk (a &&& b))
  | .or => .val (mk (a ||| b))
  | .xor => .val (mk (a ^^^ b))
  | .eql => vB (decide (a = b))
  | .neq => vB (!decide (a = b))
  | .lss => vB (decide (a.toNat < b.toNat))
  | .leq => vB (decide (a.toNat ≤ b.toNat))
  | .gtr => vB (decide (b.toNat < a.toNat))
  | .geq => vB (decide (b.toNat ≤ a.toNat))
  | _ => .fail
def shiftBV {n : Nat} (mk : BitVec n → SV) (op : BinOp) (a : BitVec n) (c : Nat) : Tr := match op with
  | .shl => .val (mk (a <<< c))
  | .shr => .val (mk (a >>> c))
  | _ => .fail
def isShift : BinOp → Bool
  | .shl | .shr => true
  | _ => false

/-- Is the value surely a pointer (a function) that is no nil? -/
def SV.isPtr : SV → Bool
  | .ptr _ _ | .ptri _ _ _ | .ip _ _ | .ipi _ _ _ => true
  | _ => false
def SV.isFn : SV → Bool
  | .fn _ _ _ | .yv _ => true
  | _ => false
def eqT (op : BinOp) (b : Bool) : Tr := match op with
  | .eql => vB b
  | .neq => vB (!b)
  | _ => .fail
/-- An equation of other values. -/
def eqOther (T : List TI) (ti : TI) (op : BinOp) (x y : SV) : Tr := match ti.k with
  | .ptr _ => match x, y with
    | .nilp, .nilp => eqT op true
    | .nilp, v => match v.isPtr with
      | true => eqT op false
      | false => .fail
    | v, .nilp => match v.isPtr with
      | true => eqT op false
      | false => .fail
    | _, _ => .fail
  | .func => match x, y with
    | .nilf, .nilf => eqT op true
    | .nilf, v => match v.isFn with
      | true => eqT op false
      | false => .fail
    | v, .nilf => match v.isFn with
      | true => eqT op false
      | false => .fail
    | _, _ => .fail
  | .str => match x, y with
    | .str s, .str t => eqT op (decide (s = t))
    | _, _ => .fail
  | .arr n e => match (ty T e).k, x, y with
    | .u8, .agg [.b8s _ xs], .agg [.b8s _ ys] => .vc (xs.length = n ∧ ys.length = n) (eqT op (decide (xs = ys)))
    | _, _, _ => .fail
  | _ => .fail

def binT (T : List TI) (ti : TI) (op : BinOp) (x y : SV) : Tr := match isShift op, x with
  | true, .int a => countT y (shiftInt op a)
  | true, .b8 a => countT y (shiftBV .b8 op a)
  | true, .b32 a => countT y (shiftBV .b32 op a)
  | true, .b64 a => countT y (shiftBV .b64 op a)
  | true, _ => .fail
  | false, .int a => match y with
    | .int b => arithInt op a b
    | _ => .fail
  | false, .b8 a => match y with
    | .b8 b => arithBV .b8 op a b
    | _ => .fail
  | false, .b16 a => match y with
    | .b16 b => arithBV .b16 op a b
    | _ => .fail
  | false, .b32 a => match y with
    | .b32 b => arithBV .b32 op a b
    | _ => .fail
  | false, .b64 a => match y with
    | .b64 b => arithBV .b64 op a b
    | _ => .fail
  | false, _ => eqOther T ti op x y

section
variable {P : Program} {X : Nat → Prop} {G : List (Nat × SV)} {s : St} {ρ : Rho} {lh : Lam} {w : World} {own : Nat → Prop}

/-- A tree that asks conditions and gives a value: what it gives. -/
def Tr.Gives (tr : Tr) (v : SV) : Prop := ∃ e rd, tr.Ok s.blk e rd ∧ e = ⟨v, [], [], []⟩

theorem run_eqGuard {op : BinOp} {t : TypeId} {x y : Operand} {a b : Value} (h : a ≠ .nilIface ∨ b ≠ .nilIface) (h' : (∀ c, a ≠ .agg c) ∨ (∀ c, b ≠ .agg c)) : (eqGuard op t x y a b).run P w = .ok () w := by
  unfold eqGuard
  split <;> simp only [Bool.not_true, Bool.not_false, Bool.false_eq_true, if_false, if_true]
  all_goals first
    | rfl
    | (split
       · rcases h with h | h <;> exact absurd rfl h
       · rcases h' with h' | h' <;> exact absurd rfl (h' _)
       · rfl)

theorem count_ok {y : SV} {k : Nat → Tr} {h : Nat → Option (List Seg)} {e : Eff} {rd : List Nat} {v : Value} (hok : (countT y k).Ok h e rd) (hv : Den w own ρ lh y v) :
    ∃ (yk : IntKind) (c : Nat), v = .int yk c ∧ (k c).Ok h e rd := by
  cases y <;> simp only [countT] at hok <;> try exact hok.elim
  case int c =>
    obtain ⟨h0, hk⟩ := hok
    cases hv with | im h1 => cases h1; exact ⟨.i64, c.toNat, by simp only [vInt]; rw [Int.toNat_of_nonneg h0], hk⟩
  case b8 c => cases hv with | im h1 => cases h1; exact ⟨.u8, c.toNat, rfl, hok⟩
  case b64 c => cases hv with | im h1 => cases h1; exact ⟨.u64, c.toNat, rfl, hok⟩

theorem toNat_and_i64 {a b : Int} (f : BitVec 64 → BitVec 64 → BitVec 64) (g : Nat → Nat → Nat) (hf : ∀ x y : BitVec 64, (f x y).toNat = g x.toNat y.toNat)
    (ha : 0 ≤ a ∧ a ≤ 9223372036854775807) (hb : 0 ≤ b ∧ b ≤ 9223372036854775807) (hg : g a.toNat b.toNat < 2 ^ 63) :
    IntKind.i64.wrap ((f (BitVec.ofInt 64 a) (BitVec.ofInt 64 b)).toNat : Int) = ((g a.toNat b.toNat : Nat) : Int) := by
  have e : ∀ c : Int, 0 ≤ c ∧ c ≤ 9223372036854775807 → (BitVec.ofInt 64 c).toNat = c.toNat := fun c hc => by
    rw [BitVec.toNat_ofInt]; congr 1; omega
  rw [hf, e a ha, e b hb, i64_in]
  exact ⟨by omega, by omega⟩

theorem arithInt_ok {op : BinOp} {a b : Int} {h : Nat → Option (List Seg)} {e : Eff} {rd : List Nat} (hs : isShift op = false) (hok : (arithInt op a b).Ok h e rd) :
    ∃ sv v, e = ⟨sv, [], [], []⟩ ∧ ∀ t w own, (Go.binOp op t (vInt a) (vInt b)).run P w = .ok v w ∧ Den0 w own sv v := by
  cases op <;> simp only [arithInt, vB, Tr.val] at hok <;> first | exact hok.elim | (simp [isShift] at hs; done) | skip
  case add =>
    obtain ⟨h1, rfl, rfl⟩ := hok
    exact ⟨_, vInt (a + b), rfl, fun t w own => ⟨by simp [Go.binOp, vInt, Op.intArith, i64_in h1], .int _⟩⟩
  case sub =>
    obtain ⟨h1, rfl, rfl⟩ := hok
    exact ⟨_, vInt (a - b), rfl, fun t w own => ⟨by simp [Go.binOp, vInt, Op.intArith, i64_in h1], .int _⟩⟩
  case mul =>
    obtain ⟨h1, rfl, rfl⟩ := hok
    exact ⟨_, vInt (a * b), rfl, fun t w own => ⟨by simp [Go.binOp, vInt, Op.intArith, i64_in h1], .int _⟩⟩
  case quo =>
    obtain ⟨h1, rfl, rfl⟩ := hok
    refine ⟨_, vInt (a / b), rfl, fun t w own => ⟨?_, .int _⟩⟩
    have hb : ¬ b = 0 := by omega
    have hr : inI64 (a / b) := ⟨by have := Int.ediv_nonneg h1.1 (Int.le_of_lt h1.2.2); omega, by have := Int.ediv_le_self b h1.1; omega⟩
    simp [Go.binOp, vInt, Op.intDiv, hb, Int.tdiv_eq_ediv_of_nonneg h1.1, i64_in hr]
  case rem =>
    obtain ⟨h1, rfl, rfl⟩ := hok
    refine ⟨_, vInt (a % b), rfl, fun t w own => ⟨?_, .int _⟩⟩
    have hb : ¬ b = 0 := by omega
    simp [Go.binOp, vInt, Op.intDiv, hb, Int.tmod_eq_emod_of_nonneg h1.1]
  case and =>
    obtain ⟨⟨h1, h2⟩, rfl, rfl⟩ := hok
    refine ⟨_, _, rfl, fun t w own => ⟨?_, .int _⟩⟩
    have := toNat_and_i64 (a := a) (b := b) (· &&& ·) (· &&& ·) (fun x y => BitVec.toNat_and x y) h1 h2 (Nat.and_lt_two_pow _ (by omega))
    simp only [Go.binOp, vInt, Op.intBits, ne_eq, not_true_eq_false, if_false, IntKind.bits]
    exact congrArg (fun z => Result.ok (Value.int .i64 z) w) this
  case or =>
    obtain ⟨⟨h1, h2⟩, rfl, rfl⟩ := hok
    refine ⟨_, _, rfl, fun t w own => ⟨?_, .int _⟩⟩
    have := toNat_and_i64 (a := a) (b := b) (· ||| ·) (· ||| ·) (fun x y => BitVec.toNat_or x y) h1 h2 (Nat.or_lt_two_pow (by omega) (by omega))
    simp only [Go.binOp, vInt, Op.intBits, ne_eq, not_true_eq_false, if_false, IntKind.bits]
    exact congrArg (fun z => Result.ok (Value.int .i64 z) w) this
  case xor =>
    obtain ⟨⟨h1, h2⟩, rfl, rfl⟩ := hok
    refine ⟨_, _, rfl, fun t w own => ⟨?_, .int _⟩⟩
    have := toNat_and_i64 (a := a) (b := b) (· ^^^ ·) (· ^^^ ·) (fun x y => BitVec.toNat_xor x y) h1 h2 (Nat.xor_lt_two_pow (by omega) (by omega))
    simp only [Go.binOp, vInt, Op.intBits, ne_eq, not_true_eq_false, if_false, IntKind.bits]
    exact congrArg (fun z => Result.ok (Value.int .i64 z) w) this
  case eql => obtain ⟨rfl, rfl⟩ := hok; exact ⟨_, _, rfl, fun t w own => ⟨by simp [Go.binOp, vInt, Op.intCmp, int_beq], .bool _⟩⟩
  case neq => obtain ⟨rfl, rfl⟩ := hok; exact ⟨_, _, rfl, fun t w own => ⟨by simp [Go.binOp, vInt, Op.intCmp, bne, int_beq], .bool _⟩⟩
  case lss => obtain ⟨rfl, rfl⟩ := hok; exact ⟨_, _, rfl, fun t w own => ⟨by simp [Go.binOp, vInt, Op.intCmp], .bool _⟩⟩
  case leq => obtain ⟨rfl, rfl⟩ := hok; exact ⟨_, _, rfl, fun t w own => ⟨by simp [Go.binOp, vInt, Op.intCmp], .bool _⟩⟩
  case gtr => obtain ⟨rfl, rfl⟩ := hok; exact ⟨_, _, rfl, fun t w own => ⟨by simp [Go.binOp, vInt, Op.intCmp], .bool _⟩⟩
  case geq => obtain ⟨rfl, rfl⟩ := hok; exact ⟨_, _, rfl, fun t w own => ⟨by simp [Go.binOp, vInt, Op.intCmp], .bool _⟩⟩

theorem shiftInt_ok {op : BinOp} {a : Int} {c : Nat} {yk : IntKind} {h : Nat → Option (List Seg)} {e : Eff} {rd : List Nat} (hok : (shiftInt op a c).Ok h e rd) :
    ∃ sv v, e = ⟨sv, [], [], []⟩ ∧ ∀ t w own, (Go.binOp op t (vInt a) (.int yk (c : Int))).run P w = .ok v w ∧ Den0 w own sv v := by
  cases op <;> simp only [shiftInt, Tr.val] at hok <;> first | exact hok.elim | skip
  case shl =>
    obtain ⟨⟨h1, h2⟩, rfl, rfl⟩ := hok
    refine ⟨_, vInt (a * 2 ^ c), rfl, fun t w own => ⟨?_, .int _⟩⟩
    have hc : ¬ ((c : Int) < 0) := by omega
    simp [Go.binOp, vInt, Op.shift, hc, IntKind.bits, Nat.min_eq_left (Nat.le_of_lt h1), i64_in h2]
  case shr =>
    obtain ⟨h1, rfl, rfl⟩ := hok
    refine ⟨_, vInt (a / 2 ^ c), rfl, fun t w own => ⟨?_, .int _⟩⟩
    have hc : ¬ ((c : Int) < 0) := by omega
    have := Int.fdiv_eq_ediv_of_nonneg a (Int.le_of_lt (Int.pow_pos (by decide : (0 : Int) < 2) : (0 : Int) < 2 ^ c))
    simp [Go.binOp, vInt, Op.shift, hc, IntKind.bits, Nat.min_eq_left (Nat.le_of_lt h1), this]

theorem arithBV_ok {k : IntKind} (hk : k.signed = false) {mk : BitVec k.bits → SV} (hmk : ∀ w own x, Den0 w own (mk x) (.int k (x.toNat : Int))) {op : BinOp} {a b : BitVec k.bits} {h : Nat → Option (List Seg)} {e : Eff} {rd : List Nat}
    (hs : isShift op = false) (hok : (arithBV mk op a b).Ok h e rd) :
    ∃ sv v, e = ⟨sv, [], [], []⟩ ∧ ∀ t w own, (Go.binOp op t (.int k (a.toNat : Int)) (.int k (b.toNat : Int))).run P w = .ok v w ∧ Den0 w own sv v := by
  have bits : ∀ (f : BitVec k.bits → BitVec k.bits → BitVec k.bits), k.wrap ((f (BitVec.ofInt k.bits (a.toNat : Int)) (BitVec.ofInt k.bits (b.toNat : Int))).toNat : Int) = ((f a b).toNat : Int) := fun f => by
    rw [ofInt_toNat, ofInt_toNat, bv_wrap hk]
  cases op <;> simp only [arithBV, vB, Tr.val] at hok <;> first | exact hok.elim | (simp [isShift] at hs; done) | skip
  case add => obtain ⟨rfl, rfl⟩ := hok; exact ⟨_, _, rfl, fun t w own => ⟨by simp [Go.binOp, Op.intArith, bv_add hk], hmk _ _ _⟩⟩
  case sub => obtain ⟨rfl, rfl⟩ := hok; exact ⟨_, _, rfl, fun t w own => ⟨by simp only [Go.binOp, Op.intArith, bv_sub hk, ne_eq, not_true_eq_false, if_false]; rfl, hmk _ _ _⟩⟩
  case mul => obtain ⟨rfl, rfl⟩ := hok; exact ⟨_, _, rfl, fun t w own => ⟨by simp only [Go.binOp, Op.intArith, bv_mul hk, ne_eq, not_true_eq_false, if_false]; rfl, hmk _ _ _⟩⟩
  case quo =>
    obtain ⟨h1, rfl, rfl⟩ := hok
    refine ⟨_, _, rfl, fun t w own => ⟨?_, hmk _ _ (a / b)⟩⟩
    have hb : ¬ ((b.toNat : Int) = 0) := by omega
    simp only [Go.binOp, Op.intDiv, ne_eq, not_true_eq_false, if_false, hb, bv_quo hk]; rfl
  case rem =>
    obtain ⟨h1, rfl, rfl⟩ := hok
    refine ⟨_, _, rfl, fun t w own => ⟨?_, hmk _ _ (a % b)⟩⟩
    have hb : ¬ ((b.toNat : Int) = 0) := by omega
    simp only [Go.binOp, Op.intDiv, ne_eq, not_true_eq_false, if_false, hb, bv_rem]; rfl
  case and => obtain ⟨rfl, rfl⟩ := hok; exact ⟨_, _, rfl, fun t w own => ⟨by simp only [Go.binOp, Op.intBits, ne_eq, not_true_eq_false, if_false]; rw [bits (· &&& ·)]; rfl, hmk _ _ _⟩⟩
  case or => obtain ⟨rfl, rfl⟩ := hok; exact ⟨_, _, rfl, fun t w own => ⟨by simp only [Go.binOp, Op.intBits, ne_eq, not_true_eq_false, if_false]; rw [bits (· ||| ·)]; rfl, hmk _ _ _⟩⟩
  case xor => obtain ⟨rfl, rfl⟩ := hok; exact ⟨_, _, rfl, fun t w own => ⟨by simp only [Go.binOp, Op.intBits, ne_eq, not_true_eq_false, if_false]; rw [bits (· ^^^ ·)]; rfl, hmk _ _ _⟩⟩
  case eql =>
    obtain ⟨rfl, rfl⟩ := hok
    refine ⟨_, .bool (decide (a = b)), rfl, fun t w own => ⟨?_, .bool _⟩⟩
    have : ((a.toNat : Int) == (b.toNat : Int)) = decide (a = b) := by rw [int_beq]; exact decide_eq_decide.2 ⟨fun h => BitVec.eq_of_toNat_eq (by omega), fun h => by rw [h]⟩
    simp [Go.binOp, Op.intCmp, this]
  case neq =>
    obtain ⟨rfl, rfl⟩ := hok
    refine ⟨_, .bool (!decide (a = b)), rfl, fun t w own => ⟨?_, .bool _⟩⟩
    have : ((a.toNat : Int) == (b.toNat : Int)) = decide (a = b) := by rw [int_beq]; exact decide_eq_decide.2 ⟨fun h => BitVec.eq_of_toNat_eq (by omega), fun h => by rw [h]⟩
    simp [Go.binOp, Op.intCmp, bne, this]
  case lss => obtain ⟨rfl, rfl⟩ := hok; exact ⟨_, _, rfl, fun t w own => ⟨by simp [Go.binOp, Op.intCmp], .bool _⟩⟩
  case leq => obtain ⟨rfl, rfl⟩ := hok; exact ⟨_, _, rfl, fun t w own => ⟨by simp [Go.binOp, Op.intCmp], .bool _⟩⟩
  case gtr => obtain ⟨rfl, rfl⟩ := hok; exact ⟨_, _, rfl, fun t w own => ⟨by simp [Go.binOp, Op.intCmp], .bool _⟩⟩
  case geq => obtain ⟨rfl, rfl⟩ := hok; exact ⟨_, _, rfl, fun t w own => ⟨by simp [Go.binOp, Op.intCmp], .bool _⟩⟩

theorem shiftBV_ok {k : IntKind} (hk : k.signed = false) {mk : BitVec k.bits → SV} (hmk : ∀ w own x, Den0 w own (mk x) (.int k (x.toNat : Int))) {op : BinOp} {a : BitVec k.bits} {c : Nat} {yk : IntKind} {h : Nat → Option (List Seg)} {e : Eff} {rd : List Nat}
    (hok : (shiftBV mk op a c).Ok h e rd) :
    ∃ sv v, e = ⟨sv, [], [], []⟩ ∧ ∀ t w own, (Go.binOp op t (.int k (a.toNat : Int)) (.int yk (c : Int))).run P w = .ok v w ∧ Den0 w own sv v := by
  have hc : ¬ ((c : Int) < 0) := by omega
  cases op <;> simp only [shiftBV, Tr.val] at hok <;> first | exact hok.elim | skip
  case shl =>
    obtain ⟨rfl, rfl⟩ := hok
    refine ⟨_, _, rfl, fun t w own => ⟨?_, hmk _ _ (a <<< c)⟩⟩
    simp only [Go.binOp, Op.shift, hc, if_false, Int.toNat_natCast, bv_shl hk]; rfl
  case shr =>
    obtain ⟨rfl, rfl⟩ := hok
    refine ⟨_, _, rfl, fun t w own => ⟨?_, hmk _ _ (a >>> c)⟩⟩
    simp only [Go.binOp, Op.shift, hc, if_false, Int.toNat_natCast, bv_shr]; rfl
end
end Go.SE
