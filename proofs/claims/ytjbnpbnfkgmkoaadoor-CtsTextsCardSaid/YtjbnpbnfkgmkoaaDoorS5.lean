/- Soundness of the rules on code: the pieces. -/
import Derived.Test.YtjbnpbnfkgmkoaaDoorS4
set_option linter.all false
namespace Go.SE
open Go

structure EnvOK (P : Program) (E : Env) : Prop where
  T : TabOK P E.T
  FT : TabFOK P E.G E.FT
  mix : P.follows .mixedOrders = true
  FB : ∀ g fb, look E.FB g = some fb → ∃ fn, P.funcs[g]? = some fn ∧ fn.body = some fb.code ∧ fn.ntmps = fb.ntmps ∧ fn.results = #[] ∧ (fn.name == "runtime.NumGoroutine") = false
def RoundOK (F : Fence) (st : Start) : Prop := F.round = none ∨ ∃ L l, F.round = some l ∧ (∃ c, (L, c) ∈ st.hs) ∧ L < st.M ∧ st.lh L = some l
def QOK (X : Nat → Prop) (G : List (Nat × SV)) (st : Start) (K : Ex → St → VT) (Q : Exit → Act → World → Prop) : Prop :=
  ∀ e s ρ lh a w, (K e s).holds → Reach X G st s ρ lh a w → Q e.toExit a w
def YOKA (P : Program) (X : Nat → Prop) (G : List (Nat × SV)) (Y : YH) : Prop := ∀ st, YOK P X G st Y

section
variable {P : Program} {X : Nat → Prop} {G : List (Nat × SV)} {st : Start} {s s' : St} {ρ ρ' : Rho} {lh lh' : Lam} {a a' : Act} {w w' : World} {fr : Nat}

/-- Where a frame begins within another one. -/
def St.start (s : St) (ρ : Rho) (lh : Lam) (w : World) : Start := ⟨s.next, s.nh, hsC s.hs, Mine s ρ lh, ρ, lh, w⟩

theorem Reach.back (h : Reach X G st s ρ lh a w) {s2 : St} {ρ2 : Rho} {lh2 : Lam} {a2 : Act} {w2 : World} (h2 : Reach X G (s.start ρ lh w) s2 ρ2 lh2 a2 w2) : Reach X G st { s2 with tmps := s.tmps } ρ2 lh2 a w2 := by
  obtain ⟨l1, l2⟩ := h.sat.H.full h2.ev (Nat.le_refl _) (Nat.le_refl _)
  refine ⟨⟨h2.sat.H.congr (fun _ => rfl) (fun _ => rfl) (Nat.le_refl _) (Nat.le_refl _), ?_⟩, ?_, Nat.le_trans h.hN h2.hN, Nat.le_trans h.hM h2.hM, h2.hc.trans h.hc, h.dm⟩
  · have := h.sat.T.stab (s' := { s2 with tmps := s.tmps }) (h2.ev.stab (X := X) (s := s) (s' := s2)) l1 l2 rfl
    exact this
  · exact h.ev.trans h2.ev h.hN h.hM

theorem mem_hsC {l : List (Nat × Hd)} {L : Nat} {h : Hd} (e : look l L = some h) : ∃ c, (L, c) ∈ hsC l := ⟨_, List.mem_map.2 ⟨(L, h), look_mem e, rfl⟩⟩

/-- A loop's record is changed. -/
theorem Reach.putLoop (hr : Reach X G st s ρ lh a w) {L l : Nat} {h h' : Hd} {r r' : Loop} (hL : s.hd L = some h) (hl : lh L = some l) (hrec : w.heap[l]? = some (.loop r)) (h1 : r'.state = h'.st) (h2 : r'.pending = h'.pend) (h3 : r'.params = h'.params)
    (h4 : r'.assign = h'.assign) (h5 : r'.body = h'.body) (h6 : r'.tmps = r.tmps) (hc : (h'.tmps, h'.params, h'.assign, h'.body, h'.lim) = (h.tmps, h.params, h.assign, h.body, h.lim)) :
    Reach X G st (s.setHd L h') ρ lh a (w.putObj l (.loop r')) := by
  have hc' := hc
  simp only [Prod.mk.injEq] at hc'
  obtain ⟨g1, g2⟩ := hr.sat.H.putLoop hL hl hrec h1 h2 h3 h4 h5 h6 hc'.1 hc'.2.2.2.2
  refine ⟨⟨g1, hr.sat.H.stabT hr.sat.T g2 rfl⟩, hr.ev.trans g2 hr.hN hr.hM, hr.hN, hr.hM, ?_, hr.dm⟩
  rw [← hr.hc]
  exact hsC_setHs _ _ _ _ hL hc

/-- yield's parameters. -/
theorem params_den {own : Nat → Prop} : ∀ (ps : List Tmp) (ts : List SV) (xs : List SV) (tmps : Array Value) (vs : List Value), DenL w own ρ lh xs vs → xs.length = ps.length → tmps.size = ts.length → (∀ t sv, ts[t]? = some sv → Den w own ρ lh sv (tmps.getD t undef)) →
    ((ps.zip vs).foldl (fun tmps (p : Tmp × Value) => tmps.setIfInBounds p.1 p.2) tmps).size = (putParams ts ps xs).length ∧
    ∀ t sv, (putParams ts ps xs)[t]? = some sv → Den w own ρ lh sv (((ps.zip vs).foldl (fun tmps (p : Tmp × Value) => tmps.setIfInBounds p.1 p.2) tmps).getD t undef) := by
  intro ps
  induction ps with
  | nil =>
    intro ts xs tmps vs hd hl hs ht
    cases xs with
    | nil => cases hd; exact ⟨hs, ht⟩
    | cons _ _ => simp at hl
  | cons p ps ih =>
    intro ts xs tmps vs hd hl hs ht
    cases xs with
    | nil => simp at hl
    | cons x xs =>
      cases hd with
      | @cons _ v _ l hv hr =>
        simp only [List.zip_cons_cons, List.foldl_cons, putParams]
        refine ih (ts.set p x) xs (tmps.setIfInBounds p v) l hr (by simpa using hl) (by simpa using hs) fun t sv e => ?_
        rw [List.getElem?_set] at e
        rw [Array.getD_eq_getD_getElem?, Array.getElem?_setIfInBounds]
        by_cases hpt : p = t
        · subst hpt
          by_cases hlt : p < ts.length
          · simp only [if_true, hlt, Option.some.injEq] at e
            subst e
            have : p < tmps.size := by rw [hs]; exact hlt
            simpa [this] using hv
          · simp [hlt] at e
        · rw [if_neg hpt] at e ⊢
          rw [← Array.getD_eq_getD_getElem?]
          exact ht t sv e

/-- The temporaries of a frame that is entered. -/
theorem entry_T (_hs : SatH X G s ρ lh w) {vs : List SV} {l : List Value} (hd : DenL w (Own X s ρ lh) ρ lh vs l) (n : Nat) :
    SatT X { s with tmps := vs ++ List.replicate (n - vs.length) (.tup []) } ρ lh { tmps := l.toArray ++ Array.replicate (n - l.toArray.size) undef, defers := [] } w := by
  have hlen : ∀ {vs : List SV} {l : List Value}, DenL w (Own X s ρ lh) ρ lh vs l → l.length = vs.length := by
    intro vs
    induction vs with
    | nil => intro l h; cases h; rfl
    | cons x r ih => intro l h; cases h with | cons a b => simp [ih b]
  have hl := hlen hd
  refine ⟨by simp [hl], fun t sv e => ?_, [], rfl, List.nodup_nil, by simp⟩
  change Den w (Own X s ρ lh) ρ lh sv _
  rw [Array.getD_eq_getD_getElem?]
  by_cases ht : t < vs.length
  · rw [List.getElem?_append_left ht] at e
    obtain ⟨v, h1, h2⟩ := hd.get e
    rw [Array.getElem?_append_left (by simp; omega)]
    simp [h1, h2]
  · rw [List.getElem?_append_right (by omega), List.getElem?_replicate] at e
    split at e
    · cases e
      rw [Array.getElem?_append_right (by simp; omega), Array.getElem?_replicate]
      have : Den w (Own X s ρ lh) ρ lh (.tup []) undef := .tup .nil
      split <;> simpa using this
    · cases e

/-- The marks are shut one after the other. -/
def shutAll (w : World) : List Nat → World
  | [] => w
  | r :: rs => shutAll (w.putObj r (.deferred none)) rs
theorem shutAll_size (ms : List Nat) : ∀ w : World, (shutAll w ms).heap.size = w.heap.size := by
  induction ms with
  | nil => intro w; rfl
  | cons r rs ih => intro w; simp [shutAll, ih]
theorem shutAll_other (ms : List Nat) : ∀ (w : World) (b : Nat), b ∉ ms → (shutAll w ms).heap[b]? = w.heap[b]? := by
  induction ms with
  | nil => intro w b _; rfl
  | cons r rs ih =>
    intro w b hb
    simp only [List.mem_cons, not_or] at hb
    simp only [shutAll]
    rw [ih _ _ hb.2, World.putObj_heap_other hb.1]
theorem SatH.shutAll (ms : List Nat) : ∀ {w : World}, SatH X G s ρ lh w → ms.Nodup → (∀ r ∈ ms, w.heap[r]? = some (.deferred (some []))) → SatH X G s ρ lh (SE.shutAll w ms) ∧ StabC w (Own X s ρ lh) (SE.shutAll w ms) (Own X s ρ lh) := by
  induction ms with
  | nil => intro w h _ _; exact ⟨h, fun _ _ _ _ hb ho => ⟨hb, ho⟩⟩
  | cons r rs ih =>
    intro w h hn hm
    obtain ⟨h1, h2⟩ := h.shut (hm r (by simp)) none
    rw [List.nodup_cons] at hn
    obtain ⟨h3, h4⟩ := ih h1 hn.2 (fun q hq => by
      rw [World.putObj_heap_other (fun e => hn.1 (by rw [← e]; exact hq))]
      exact hm q (by simp [hq]))
    exact ⟨h3, fun b cs e f hb ho => let ⟨x, y⟩ := h2 b cs e f hb ho; h4 b cs e f x y⟩
theorem leaves_marks {fn : Func} {tmps : Array Value} {R : Ending → World → Prop} : ∀ (ms : List Nat) (w : World), ms.Nodup → (∀ r ∈ ms, w.heap[r]? = some (.deferred (some []))) → LeavesIn Fence.wide 0 P fn tmps R [] .returning (shutAll w ms) →
    LeavesInM Fence.wide 0 P fn tmps R (ms.map fun r => { target := .collected r, args := #[] }) .returning w := by
  intro ms
  induction ms with
  | nil => intro w _ _ h; exact h
  | cons r rs ih =>
    intro w hn hm h
    rw [List.nodup_cons] at hn
    refine ⟨by simp, .inl ⟨r, _, rfl, run_takeDeferred (hm r (by simp)), ih _ hn.2 (fun q hq => ?_) h⟩⟩
    rw [World.putObj_heap_other (fun e => hn.1 (by rw [← e]; exact hq))]
    exact hm q (by simp [hq])
theorem shutAll_mute (ms : List Nat) : ∀ w : World, Mute w (shutAll w ms) := by
  induction ms with
  | nil => intro w; exact ⟨rfl, rfl⟩
  | cons r rs ih => intro w; exact Mute.trans ⟨rfl, rfl⟩ (ih (w.putObj r (.deferred none)))
theorem Ev.shut {N M : Nat} {m m' : Nat → Prop} {w0 : World} (h : Ev N M m m' ρ ρ' lh lh' w0 w) {ms : List Nat} (hms : ∀ r ∈ ms, w0.heap.size ≤ r) : Ev N M m m' ρ ρ' lh lh' w0 (shutAll w ms) :=
  ⟨by rw [shutAll_size]; exact h.size, fun b o hb hm => by
    rw [shutAll_other _ _ _ (fun hin => by have := hms b hin; have := lt_of_heap hb; omega)]
    exact h.keep b o hb hm, h.own, h.rho, h.lam, Mute.trans h.out (shutAll_mute ms w)⟩

/-- The marks of a frame. -/
theorem Reach.marks (h : Reach X G st s ρ lh a w) : ∃ ms : List Nat, a.defers = ms.map (fun r => { target := .collected r, args := #[] }) ∧ ms.Nodup ∧ (∀ r ∈ ms, w.heap[r]? = some (.deferred (some [])) ∧ ¬ Own X s ρ lh r) ∧ ∀ r ∈ ms, st.w.heap.size ≤ r := by
  obtain ⟨ms, h1, h2, h3⟩ := h.sat.T.marks
  refine ⟨ms, h1, h2, h3, fun r hr => ?_⟩
  obtain ⟨r', e, hle⟩ := h.dm { target := .collected r, args := #[] } (by rw [h1]; exact List.mem_map.2 ⟨r, hr, rfl⟩)
  cases e
  exact hle
end
end Go.SE
/- Soundness of the rules on code. -/
namespace Go.SE
open Go
section
variable {P : Program} {X : Nat → Prop} {E : Env}

/-- What is claimed of code, with this fuel. -/
def CodeS (P : Program) (X : Nat → Prop) (E : Env) (f : Nat) : Prop :=
  ∀ (A : Ann) (Y : YH) (lo : Nat) (c : Code) (s : St) (K : Ex → St → VT), (wpCode E f A Y lo c s K).holds → ∀ (st : Start) (ρ : Rho) (lh : Lam) (a : Act) (w : World), Reach X E.G st s ρ lh a w → st.N ≤ lo → YOKA P X E.G Y →
    ∀ (F : Fence) (n : Nat) (Q : Exit → Act → World → Prop), Fence.open F → RoundOK F st → QOK X E.G st K Q → c.wpIn F n P Q a w
def RangeS (P : Program) (X : Nat → Prop) (E : Env) (f : Nat) : Prop :=
  ∀ (A B : Ann) (Y : YH) (g : Operand) (ps : Array Tmp) (as bd : Code) (s : St) (K : Ex → St → VT), (wpRange E f A B Y g ps as bd s K).holds → ∀ (st : Start) (ρ : Rho) (lh : Lam) (a : Act) (w : World), Reach X E.G st s ρ lh a w → YOKA P X E.G Y →
    ∀ (F : Fence) (n : Nat) (Q : Exit → Act → World → Prop), Fence.open F → RoundOK F st → QOK X E.G st K Q → (Code.rangeFunc g ps as bd).wpIn F n P Q a w
def YieldS (P : Program) (X : Nat → Prop) (E : Env) (f : Nat) : Prop := ∀ (A : Ann) (Y : YH) (L : Nat), YOKA P X E.G Y → YOKA P X E.G (wpYield E f A Y L)

theorem Fence.open.inRound {F : Fence} (h : Fence.open F) (l : Nat) : Fence.open (F.inRound l) := h

theorem yield_sound {f : Nat} (hC : CodeS P X E f) : YieldS P X E (f + 1) := by
  intro A Y L hY st F n Q hF s L0 o c fo K ho hc hev hw ρ lh a w hr next hnext
  simp only [wpYield] at hw
  split at hw
  · exact hY st F n Q hF s L0 o c fo K ho hc hev hw ρ lh a w hr next hnext
  rename_i hL0
  obtain rfl := of_decide_eq_true hL0
  split at hw
  case h_2 => exact hw.elim
  rename_i h hhd
  split at hw
  case h_2 => exact hw.elim
  rename_i hst hlen
  have hlen := of_decide_eq_true hlen
  -- the record
  obtain ⟨l, r, hl, hrec, e1, e2, e3, e4, e5, e6, e7⟩ := hr.sat.H.hd L0 h hhd
  have hfo : a.eval fo = .func (.yield l) #[] #[] := by
    have := ev_den hr.sat fo
    rw [hev] at this
    generalize a.eval fo = v at this
    cases this with
    | im h0 => cases h0
    | yv e => rw [hl] at e; cases e; rfl
  have hargs := evs_den hr.sat c.args.toList
  have hLlt : L0 < s.nh := hr.sat.H.hnxt L0 l hl
  have hsz : (c.args.map a.eval).size = r.params.size := by
    rw [e3, ← hlen]; simp [evs]
  refine ⟨fun g _ => hF.1 g, ?_⟩
  rw [Oper.semAt_eq _ _ _ (by rw [ho]; simp)]
  have run : (execOp a.eval o).run P w = .ok (.round l r.fn ((r.params.zip (c.args.map a.eval)).foldl (fun tmps (t, a) => tmps.setIfInBounds t a) r.tmps) r.assign r.body) w := by
    have hy := run_yield (P := P) (args := c.args.map a.eval) hrec hsz
    simp [execOp, ho, resolve, hc, hfo, Deferred.ofValue, invoke, hy]
  rw [run, Oper.uponIn_round]
  refine ⟨fun hd => (by rw [hF.2.1] at hd; cases hd), roundIn_of_wpIn (hF.1 _) ?_⟩
  -- the round's frame
  have hpar := params_den (ρ := ρ) (lh := lh) h.params.toList h.tmps (evs E.G s c.args.toList) r.tmps (c.args.toList.map a.eval) hargs (by simpa using hlen) e6
    (fun t sv ht => (e7 t sv ht).stab (Stab.of_sub fun _ hb => hb) (cutR_le _ _) (Le.refl _))
  have hfold : (r.params.zip (c.args.map a.eval)).foldl (fun tmps (t, a) => tmps.setIfInBounds t a) r.tmps = ((h.params.toList.zip (c.args.toList.map a.eval)).foldl (fun tmps (p : Tmp × Value) => tmps.setIfInBounds p.1 p.2) r.tmps) := by
    rw [e3, ← Array.foldl_toList, Array.toList_zip, Array.toList_map]
  rw [hfold]
  have hrb : Reach X E.G (s.start ρ lh w) { s with tmps := putParams h.tmps h.params.toList (evs E.G s c.args.toList) } ρ lh { tmps := (h.params.toList.zip (c.args.toList.map a.eval)).foldl (fun tmps (p : Tmp × Value) => tmps.setIfInBounds p.1 p.2) r.tmps, defers := [] } w :=
    ⟨⟨hr.sat.H.congr (fun _ => rfl) (fun _ => rfl) (Nat.le_refl _) (Nat.le_refl _), ⟨hpar.1, hpar.2, [], rfl, List.nodup_nil, by simp⟩⟩, Ev.refl _ _ _ _ _ _, Nat.le_refl _, Nat.le_refl _, rfl, by simp⟩
  have hround : RoundOK (F.inRound l) (s.start ρ lh w) := .inr ⟨L0, l, rfl, mem_hsC hhd, hLlt, hl⟩
  have e4' : r.assign = h.assign := e4
  rw [e4', e5]
  refine hC A Y s.next h.assign _ _ hw _ _ _ _ _ hrb (Nat.le_refl _) hY _ _ _ (hF.inRound l) hround ?_
  intro e s1 ρ1 lh1 a1 w1 hk hr1
  cases e with
  | exit id => exact hk.elim
  | ret => exact hk.elim
  | normal =>
    dsimp only at hk
    split at hk
    case h_2 => exact hk.elim
    rename_i h1 hh1
    split at hk
    case h_2 => exact hk.elim
    rename_i hst1
    have hl1 : lh1 L0 = some l := hr1.ev.lam L0 hLlt l hl
    obtain ⟨l', r1, q1, q2, q3, q4, q5, q6, q7, q8, q9⟩ := hr1.sat.H.hd L0 h1 hh1
    rw [hl1] at q1; cases q1
    have hready : r1.state = .ready := by rw [q3]; exact hst1
    refine ⟨_, run_beginRound q2 hready, ?_⟩
    have hr2 := hr1.putLoop (h' := { h1 with st := .busy }) (r' := { r1 with state := .busy }) hh1 hl1 q2 rfl q4 q5 q6 q7 rfl rfl
    refine hC A Y s.next h.body _ _ hk _ _ _ _ _ hr2 (Nat.le_refl _) hY _ _ _ (hF.inRound l) hround ?_
    intro e s2 ρ2 lh2 a2 w2 hk2 hr3
    dsimp only at hk2
    split at hk2
    case h_2 => exact hk2.elim
    rename_i h2 hh2
    have hl2 : lh2 L0 = some l := hr3.ev.lam L0 hLlt l hl
    obtain ⟨l', r2, p1, p2, p3, p4, p5, p6, p7, p8, p9⟩ := hr3.sat.H.hd L0 h2 hh2
    rw [hl2] at p1; cases p1
    have fin : ∀ (jump : Option Code) (b : SV) (hb : ∀ w own ρ lh, Den w own ρ lh b (.bool jump.isNone)), jump = pendOf e → b = ansOf e → (if jump.isNone then LoopState.ready else .done) = stOf e →
        ∃ v w', (Instr.endRound l jump).run P w2 = .ok v w' ∧ next (a.put o.dst v) w' := fun jump b hb hj hbe hs => by
      have hr4 := hr3.putLoop (h' := { h2 with st := stOf e, pend := pendOf e }) (r' := { r2 with state := if jump.isNone then .ready else .done, pending := jump }) hh2 hl2 p2 hs (by rw [hj]) p5 p6 p7 rfl rfl
      have hr5 := hr.back hr4
      rw [← hbe] at hk2
      exact ⟨_, _, run_endRound jump p2, hnext _ _ _ _ _ _ hk2 hr5 (hb _ _ _ _)⟩
    cases e with
    | normal => exact fin none _ (fun _ _ _ _ => .im (.bool true)) rfl rfl rfl
    | exit id => exact fin (some (.exit id)) _ (fun _ _ _ _ => .im (.bool false)) rfl rfl rfl
    | ret => exact fin (some .ret) _ (fun _ _ _ _ => .im (.bool false)) rfl rfl rfl

/-- Entering the loop: the record is laid. -/
theorem enter_loop {st : Start} {s : St} {ρ : Rho} {lh : Lam} {a : Act} {w : World} {G : List (Nat × SV)} (hr : Reach X G st s ρ lh a w) {F : Fence} (hro : RoundOK F st) (fn : FuncId) (ps : Array Tmp) (as bd : Code) :
    ∃ (mark : List Deferred) (w0 : World) (r : Loop), (Instr.enterLoop fn a.tmps ps as bd F.round).run P w = .ok (w0.heap.size, mark) (w0.alloc (.loop r)) ∧ r.state = .ready ∧ r.pending = none ∧ r.tmps = a.tmps ∧ r.params = ps ∧ r.assign = as ∧ r.body = bd ∧
      Reach X G st s ρ lh { a with defers := mark ++ a.defers } w0 := by
  rcases hro with hro | ⟨L, l, hro, ⟨c, hc⟩, hL, hl⟩
  · obtain ⟨g1, g2⟩ := hr.sat.H.allocOther (.deferred (some []))
    refine ⟨[{ target := .collected w.heap.size, args := #[] }], w.alloc (.deferred (some [])), { state := .ready, pending := none, fn, tmps := a.tmps, params := ps, assign := as, body := bd, defers := w.heap.size }, ?_, rfl, rfl, rfl, rfl, rfl, rfl, ⟨⟨g1, ?_⟩, hr.ev.trans g2 hr.hN hr.hM, hr.hN, hr.hM, hr.hc, ?_⟩⟩
    · rw [hro, run_enterLoop_outer]
      have : (w.alloc (.deferred (some []))).heap.size = w.heap.size + 1 := by simp
      rw [this]
    · have hT := hr.sat.H.stabT hr.sat.T g2 rfl
      obtain ⟨ms, h1, h2, h3⟩ := hT.marks
      have hnew : w.heap.size ∉ ms := fun hin => by
        obtain ⟨ms', h1', h2', h3'⟩ := hr.sat.T.marks
        rw [h1'] at h1
        have hmm : ms' = ms := by
          have hinj : Function.Injective (fun r : Nat => ({ target := .collected r, args := #[] } : Deferred)) := fun x y e => by cases e; rfl
          exact (List.map_inj_right hinj).1 h1
        subst hmm
        have := lt_of_heap (h3' _ hin).1
        omega
      refine ⟨hT.size, hT.tmp, w.heap.size :: ms, by simp [h1], List.nodup_cons.2 ⟨hnew, h2⟩, fun q hq => ?_⟩
      rcases List.mem_cons.1 hq with rfl | hq
      · refine ⟨by rw [heap_alloc, if_pos rfl], fun hb => ?_⟩
        rcases hb with hb | hb
        · have := hr.sat.H.xlt _ hb; omega
        · have hnone : w.heap[w.heap.size]? = none := by simp
          rcases hb with ⟨i, segs, sz, q1, q2, q3⟩ | ⟨L, x, q1, q2⟩
          · obtain ⟨cs, elem, q4, _⟩ := hr.sat.H.row q1 q2 q3
            rw [hnone] at q4; cases q4
          · obtain ⟨l', r', q3, q4, _⟩ := hr.sat.H.hd L x q1
            rw [q2] at q3; cases q3
            rw [hnone] at q4; cases q4
      · exact h3 q hq
    · intro d hd
      rcases List.mem_append.1 hd with hd | hd
      · simp only [List.mem_singleton] at hd
        subst hd
        exact ⟨_, rfl, hr.ev.size⟩
      · exact hr.dm d hd
  · -- within a round: the block around
    have hcs : (L, c) ∈ hsC s.hs := by rw [hr.hc]; exact hc
    obtain ⟨⟨L', h⟩, hm, he⟩ := List.mem_map.1 hcs
    obtain ⟨h', hlook⟩ : ∃ h', look s.hs L = some h' := by
      have : ∀ (l : List (Nat × Hd)), (L', h) ∈ l → ∃ h', look l L' = some h' := by
        intro l
        induction l with
        | nil => intro hh; cases hh
        | cons p r ih =>
          intro hh
          obtain ⟨k, x⟩ := p
          rw [look_cons]
          by_cases hk : k = L'
          · exact ⟨x, if_pos hk⟩
          · rw [if_neg hk]
            rcases List.mem_cons.1 hh with e | hh
            · cases e; exact absurd rfl hk
            · exact ih hh
      have hLL : L' = L := by have := congrArg Prod.fst he; exact this
      subst hLL
      exact this _ hm
    have hll : lh L = some l := hr.ev.lam L hL l hl
    obtain ⟨l', r0, q1, q2, _⟩ := hr.sat.H.hd L h' hlook
    rw [hll] at q1; cases q1
    refine ⟨[], w, { state := .ready, pending := none, fn, tmps := a.tmps, params := ps, assign := as, body := bd, defers := r0.defers }, ?_, rfl, rfl, rfl, rfl, rfl, rfl, by simpa using hr⟩
    rw [hro]
    unfold Instr.enterLoop
    simp [Sem.run_bind, run_getLoop q2, Result.andThen]

theorem Reach.afterLoop {G : List (Nat × SV)} {st : Start} {s : St} {ρ : Rho} {lh : Lam} {a : Act} {w0 : World} (hr : Reach X G st s ρ lh a w0) {h : Hd} {lh1 : Lam} {w1 : World} (H1 : SatH X G (s.pushHd h) ρ lh1 w1) (g1 : Goes s.next s.nh s (s.pushHd h) ρ ρ lh lh1 w0 w1)
    {s' : St} {ρ' : Rho} {lh' : Lam} {a' : Act} {w' : World} (hb : Reach X G ((s.pushHd h).start ρ lh1 w1) s' ρ' lh' a' w') {ms : List Nat} (hms : ms.Nodup) (hmk : ∀ r ∈ ms, w'.heap[r]? = some (.deferred (some []))) (hmn : ∀ r ∈ ms, w1.heap.size ≤ r)
    {h' : Hd} {rest : List (Nat × Hd)} (hhs : s'.hs = (s.nh, h') :: rest) {l : Nat} (hl : lh' s.nh = some l) {r : Loop} (hrec : (shutAll w' ms).heap[l]? = some (.loop r)) (hne : ∀ p ∈ s.hs, p.1 ≠ s.nh) :
    Reach X G st { s' with tmps := s.tmps, hs := rest } ρ' lh' a ((shutAll w' ms).putObj l (.loop { r with state := .exhausted })) := by
  have hL : s'.hd s.nh = some h' := by unfold St.hd; rw [hhs, look_cons, if_pos rfl]
  obtain ⟨i1, i2⟩ := hb.sat.H.shutAll ms hms hmk
  obtain ⟨l', r', q1, q2, q3, q4, q5, q6, q7, q8, q9⟩ := i1.hd s.nh h' hL
  rw [hl] at q1; cases q1
  rw [hrec] at q2; cases q2
  obtain ⟨j1, j2⟩ := i1.putLoop (h' := { h' with st := .exhausted }) (r' := { r with state := .exhausted }) hL hl hrec rfl q4 q5 q6 q7 rfl rfl rfl
  have hhs2 : (s'.setHd s.nh { h' with st := .exhausted }).hs = (s.nh, { h' with st := .exhausted }) :: rest := by
    show setHs s'.hs _ _ = _
    rw [hhs]; simp [setHs]
  -- the names behind the loop's own are those of before
  have hcs : hsC s'.hs = hsC (s.pushHd h).hs := hb.hc
  have hrest : hsC rest = hsC s.hs := by
    rw [hhs] at hcs
    simp only [St.pushHd, hsC, List.map_cons, List.cons.injEq] at hcs
    exact hcs.2
  have hrne : ∀ p ∈ rest, p.1 ≠ s.nh := fun p hp => by
    have : (p.1, p.2.tmps, p.2.params, p.2.assign, p.2.body, p.2.lim) ∈ hsC s.hs := by rw [← hrest]; exact List.mem_map.2 ⟨p, hp, rfl⟩
    obtain ⟨q, hq, e⟩ := List.mem_map.1 this
    have : q.1 = p.1 := (Prod.mk.inj e).1
    rw [← this]
    exact hne q hq
  obtain ⟨k1, k2⟩ := j1.popHd hhs2 hrne
  obtain ⟨l1, l2⟩ := hr.sat.H.full g1 (Nat.le_refl _) (Nat.le_refl _)
  have hbs := hb.ev.stab (X := X) (s := s.pushHd h) (s' := s')
  -- the names of the inner frame's start stay
  have lρ : Le ρ ρ' := fun id x e => hb.ev.rho id (by have := hr.sat.H.nxt id x e; exact this) x e
  have ll : Le lh lh' := fun L x e => hb.ev.lam L (by have := hr.sat.H.hnxt L x e; show L < s.nh + 1; omega) x (l2 L x e)
  have Hfin : SatH X G { s' with tmps := s.tmps, hs := rest } ρ' lh' ((shutAll w' ms).putObj l (.loop { r with state := .exhausted })) := k1.congr (fun _ => rfl) (fun _ => rfl) (Nat.le_refl _) (Nat.le_refl _)
  refine ⟨⟨Hfin, hr.sat.T.size, fun t sv e => ?_, ?_⟩, ?_, ?_, ?_, hrest.trans hr.hc, hr.dm⟩
  · have d0 := hr.sat.T.tmp t sv e
    have d1 := d0.stab (g1.stab (X := X)) l1 l2
    have d2 := d1.stab (ρ' := ρ') (lh' := lh') hbs lρ (fun L x e => hb.ev.lam L (H1.hnxt L x e) x e)
    have d3 := d2.stabC i2 (Le.refl _) (Le.refl _)
    have d4 := d3.stab (j2.stab (X := X)) (Le.refl _) (Le.refl _)
    exact d4.stab (k2.stab (X := X)) (Le.refl _) (Le.refl _)
  · obtain ⟨ms0, m1, m2, m3⟩ := hr.sat.T.marks
    refine ⟨ms0, m1, m2, fun q hq => ?_⟩
    obtain ⟨p1, p2⟩ := m3 q hq
    obtain ⟨a1, a2⟩ := g1.stab (X := X) _ _ p1 p2
    obtain ⟨b1, b2⟩ := hbs _ _ a1 a2
    have hq1 := lt_of_heap a1
    have c1 : (shutAll w' ms).heap[q]? = some (.deferred (some [])) := by
      rw [shutAll_other _ _ _ (fun hin => by have := hmn q hin; omega)]; exact b1
    have hql : q ≠ l := fun e => by subst e; rw [c1] at hrec; cases hrec
    obtain ⟨f1, f2⟩ := j2.stab (X := X) _ _ c1 b2
    obtain ⟨z1, z2⟩ := k2.stab (X := X) _ _ f1 f2
    exact ⟨z1, z2⟩
  · have e1 := hr.ev.trans g1 hr.hN hr.hM
    have e2 := e1.trans hb.ev hr.hN (Nat.le_trans hr.hM (Nat.le_succ _))
    have e3 := e2.shut (ms := ms) (fun q hq => Nat.le_trans (Nat.le_trans hr.ev.size g1.size) (hmn q hq))
    have e4 := e3.trans j2 (Nat.le_trans hr.hN hb.hN) (Nat.le_trans hr.hM (Nat.le_trans (Nat.le_succ _) hb.hM))
    exact e4.trans k2 (Nat.le_trans hr.hN hb.hN) (Nat.le_trans hr.hM (Nat.le_trans (Nat.le_succ _) hb.hM))
  · exact Nat.le_trans hr.hN hb.hN
  · exact Nat.le_trans hr.hM (Nat.le_trans (Nat.le_succ _) hb.hM)

theorem range_sound (hE : EnvOK P E) {f : Nat} (hC : CodeS P X E f) (hY1 : YieldS P X E f) : RangeS P X E (f + 1) := by
  intro A B Y g ps as bd s K hw st ρ lh a w hr hY F n Q hF hro hQ
  simp only [wpRange] at hw
  split at hw
  case h_2 => exact hw.elim
  rename_i fid first caps hev
  split at hw
  case h_2 => exact hw.elim
  rename_i fb hfb
  obtain ⟨fnB, hfn, hbody, hnt, hres, hname⟩ := hE.FB fid fb hfb
  refine wpIn_rangeFunc fun fn _ => ?_
  obtain ⟨mark, w0, r, hen, r1, r2, r3, r4, r5, r6, hr0⟩ := enter_loop hr hro fn ps as bd
  have hg := ev_den hr0.sat g
  rw [hev] at hg
  have heval : ({ a with defers := mark ++ a.defers } : Act).eval g = a.eval g := rfl
  rw [heval] at hg
  obtain ⟨v1, v2, hgv, d1, d2⟩ := den_fn hg
  let hd : Hd := ⟨s.tmps, ps, as, bd, s.next, .ready, none⟩
  obtain ⟨H1, g1⟩ := hr0.sat.H.allocLoop (h := hd) (r := r) r1 r2 r4 r5 r6 (by rw [r3]; exact hr0.sat.T.size) (fun t sv ht => by rw [r3]; exact hr0.sat.T.tmp t sv ht) rfl
  have hname' : ¬ fnB.name = "runtime.NumGoroutine" := by simpa using hname
  refine ⟨w0.heap.size, mark, w0.alloc (.loop r), { target := .fn (.func fid) v2, args := v1 ++ #[.func (.yield w0.heap.size) #[] #[]] }, w0.alloc (.loop r), fid, v1 ++ #[.func (.yield w0.heap.size) #[] #[]] ++ v2, w0.alloc (.loop r), hen, ?_, fun f' _ => hF.1 f', ?_, fun h => (by rw [hF.2.1] at h; cases h), ?_⟩
  · have hconst : ∀ v, a.eval (.const v) = v := fun _ => rfl
    simp [resolve, hgv, Deferred.ofValue, hconst]
  · simp [invoke, callFunc, hfn, hbody, hname']
  refine CallsIn.any hF (callsIn_of_wp_marks hfn hbody trivial ?_)
  -- the function's frame
  have hargs : DenL (w0.alloc (.loop r)) (Own X (s.pushHd hd) ρ (lh.upd s.nh w0.heap.size)) ρ (lh.upd s.nh w0.heap.size) (first ++ (.yv s.nh :: caps)) (v1.toList ++ (.func (.yield w0.heap.size) #[] #[] :: v2.toList)) := by
    obtain ⟨l1, l2⟩ := hr0.sat.H.full g1 (Nat.le_refl _) (Nat.le_refl _)
    exact (d1.stab (g1.stab (X := X)) l1 l2).append (.cons (.yv (Lam.upd_same _ _ _)) (d2.stab (g1.stab (X := X)) l1 l2))
  have hT := entry_T H1 hargs fnB.ntmps
  have harr : v1 ++ #[.func (.yield w0.heap.size) #[] #[]] ++ v2 = (v1.toList ++ (Value.func (.yield w0.heap.size) #[] #[] :: v2.toList)).toArray := by
    apply Array.ext'; simp
  rw [harr]
  have hrB : Reach X E.G ((s.pushHd hd).start ρ (lh.upd s.nh w0.heap.size) (w0.alloc (.loop r))) { s.pushHd hd with tmps := iterTmps fb.ntmps s.nh first caps } ρ (lh.upd s.nh w0.heap.size)
      { tmps := (v1.toList ++ (Value.func (.yield w0.heap.size) #[] #[] :: v2.toList)).toArray ++ Array.replicate (fnB.ntmps - (v1.toList ++ (Value.func (.yield w0.heap.size) #[] #[] :: v2.toList)).toArray.size) undef, defers := [] } (w0.alloc (.loop r)) := by
    refine ⟨⟨H1.congr (fun _ => rfl) (fun _ => rfl) (Nat.le_refl _) (Nat.le_refl _), ?_⟩, Ev.refl _ _ _ _ _ _, Nat.le_refl _, Nat.le_refl _, rfl, by simp⟩
    rw [hnt] at hT ⊢
    exact hT
  refine hC B (wpYield E f A Y s.nh) s.next fb.code _ _ hw _ _ _ _ _ hrB (Nat.le_refl _) (hY1 A Y s.nh hY) _ _ _ ⟨fun _ => trivial, rfl, rfl⟩ (.inl rfl) ?_
  -- the function has ended
  intro e s' ρ' lh' a' w' hk hr'
  have hk' : (afterRange s.nh s.tmps K s').holds ∧ (e = .normal ∨ e = .ret) := by
    cases e with
    | exit id => exact hk.elim
    | normal => exact ⟨hk, .inl rfl⟩
    | ret => exact ⟨hk, .inr rfl⟩
  obtain ⟨hk, he⟩ := hk'
  obtain ⟨ms, m1, m2, m3, m4⟩ := hr'.marks
  have goal : LeavesInM Fence.wide 0 P fnB a'.tmps (rangePost F n P w0.heap.size Q { a with defers := mark ++ a.defers }) a'.defers .returning w' := by
    rw [m1]
    refine leaves_marks ms w' m2 (fun q hq => (m3 q hq).1) ⟨.tuple #[], by simp [Go.results, hres], ?_⟩
    -- the record
    unfold afterRange at hk
    split at hk
    case h_2 => exact hk.elim
    rename_i L' h' rest hhs
    have hl : lh' s.nh = some w0.heap.size := hr'.ev.lam s.nh (Nat.lt_succ_self _) _ (Lam.upd_same _ _ _)
    split at hk
    · exact hk.elim
    · exact hk.elim
    rename_i hst hLL hnb
    have hLL := of_decide_eq_true hLL
    subst hLL
    have hL : s'.hd s.nh = some h' := by unfold St.hd; rw [hhs, look_cons, if_pos rfl]
    obtain ⟨i1, i2⟩ := hr'.sat.H.shutAll ms m2 (fun q hq => (m3 q hq).1)
    obtain ⟨l', rr, q1, q2, q3, q4, q5, q6, q7, q8, q9⟩ := i1.hd s.nh h' hL
    rw [hl] at q1; cases q1
    have hnb' : rr.state ≠ .busy := by rw [q3]; exact fun e => hnb e
    have hne : ∀ p ∈ s.hs, p.1 ≠ s.nh := fun p hp e => by
      -- a name below the next one
      have hsome : ∃ x, s.hd p.1 = some x := by
        have : ∀ (l : List (Nat × Hd)), p ∈ l → ∃ x, look l p.1 = some x := by
          intro l
          induction l with
          | nil => intro hh; cases hh
          | cons q r ih =>
            intro hh
            obtain ⟨k, x⟩ := q
            rw [look_cons]
            by_cases hk : k = p.1
            · exact ⟨x, if_pos hk⟩
            · rw [if_neg hk]
              rcases List.mem_cons.1 hh with e | hh
              · exact absurd (by rw [e]) hk
              · exact ih hh
        exact this _ hp
      obtain ⟨x, hx⟩ := hsome
      obtain ⟨l'', r'', z1, _⟩ := hr0.sat.H.hd p.1 x hx
      have := hr0.sat.H.hnxt p.1 l'' z1
      omega
    have hfin := Reach.afterLoop hr0 H1 g1 hr' m2 (fun q hq => (m3 q hq).1) m4 hhs hl q2 hne
    refine ⟨_, _, run_endLoop q2 hnb', ?_⟩
    split at hk
    · rename_i hp
      rw [q4.trans hp] at hfin ⊢
      exact hQ .normal _ _ _ _ _ hk hfin
    · rename_i hp
      rw [q4.trans hp] at hfin ⊢
      exact wpIn_ret (hQ .ret _ _ _ _ _ hk hfin)
    · rename_i id hp
      rw [q4.trans hp] at hfin ⊢
      exact wpIn_exit (hQ (.exit id) _ _ _ _ _ hk hfin)
    · exact hk.elim
  rcases he with rfl | rfl
  · exact goal
  · exact goal
end
end Go.SE
/- Soundness: all code. -/
namespace Go.SE
open Go
section
variable {P : Program} {X : Nat → Prop} {E : Env}

theorem QOK.inBlk {G : List (Nat × SV)} {st : Start} {K : Ex → St → VT} {Q : Exit → Act → World → Prop} (h : QOK X G st K Q) (id : Nat) : QOK X G st (inBlk id K) (Exit.inBlock id Q) := by
  intro e s ρ lh a w hk hr
  cases e with
  | normal => exact h .normal _ _ _ _ _ hk hr
  | ret => exact h .ret _ _ _ _ _ hk hr
  | exit id' =>
    simp only [SE.inBlk] at hk
    by_cases hid : id' = id
    · rw [decide_eq_true hid] at hk
      simp only [Ex.toExit, Exit.inBlock, hid, if_true]
      exact h .normal _ _ _ _ _ hk hr
    · rw [decide_eq_false hid] at hk
      simp only [Ex.toExit, Exit.inBlock, hid, if_false]
      exact h (.exit id') _ _ _ _ _ hk hr

theorem code_sound (hE : EnvOK P E) {f : Nat} (hCs : ∀ g, g ≤ f → CodeS P X E g) (hR : RangeS P X E f) : CodeS P X E (f + 1) := by
  have hC := hCs f (Nat.le_refl _)
  intro A Y lo c s K hw st ρ lh a w hr hlo hY F n Q hF hro hQ
  cases c with
  | skip => exact wpIn_skip (hQ .normal _ _ _ _ _ hw hr)
  | region id ops draw =>
    simp only [wpCode] at hw
    exact wpRegion_sound hE.mix hE.T hE.FT hF (hY st) hw hr fun s' ρ' lh' a' w' hk hr' => hQ .normal _ _ _ _ _ hk hr'
  | seq x y =>
    simp only [wpCode] at hw
    refine wpIn_seq (hC A Y lo x s _ hw st ρ lh a w hr hlo hY F n _ hF hro ?_)
    intro e s' ρ' lh' a' w' hk hr'
    cases e with
    | normal => exact hC A Y lo y s' K hk st ρ' lh' a' w' hr' hlo hY F n Q hF hro hQ
    | exit id => exact hQ (.exit id) _ _ _ _ _ hk hr'
    | ret => exact hQ .ret _ _ _ _ _ hk hr'
  | cond b x y =>
    simp only [wpCode] at hw
    split at hw
    · rename_i v hv
      have hd := ev_den hr.sat b
      rw [hv] at hd
      have hbv : a.eval b = .bool v := by
        generalize a.eval b = u at hd
        cases hd with | im h0 => cases h0; rfl
      refine wpIn_cond_split hbv (fun ht => ?_) (fun hf => ?_)
      · subst ht; exact hC A Y lo x s K hw st ρ lh a w hr hlo hY F n Q hF hro hQ
      · subst hf; exact hC A Y lo y s K hw st ρ lh a w hr hlo hY F n Q hF hro hQ
    · exact hw.elim
  | block id b =>
    have gen : (wpCode E f A Y lo b s (inBlk id K)).holds → (Code.block id b).wpIn F n P Q a w := fun hw =>
      wpIn_block (hC A Y lo b s _ hw st ρ lh a w hr hlo hY F n _ hF hro (hQ.inBlk id))
    cases b with
    | loop b' =>
      simp only [wpCode] at hw
      split at hw
      · rename_i I hI
        obtain ⟨⟨hpre, hw0⟩, hw1⟩ := hw
        refine wpIn_block ?_
        have hhs : ∀ i, hsC (tplOf I s i).hs = st.hs := fun i => hr.hc
        refine wpIn_loop_ex (fun m a w => ∃ i ρ lh, I.pre i ∧ I.μ i = m ∧ Reach X E.G st (tplOf I s i) ρ lh a w) ?_ ?_
        · obtain ⟨_, ρ', hr', _⟩ := wk_sound hw0 hr hlo (hhs _)
          exact ⟨_, I.init, ρ', lh, hpre, rfl, hr'⟩
        · rintro m a' w' ⟨i, ρ', lh', hi, rfl, hr'⟩
          refine hC A Y lo b' _ _ (hw1 i hi) st ρ' lh' a' w' hr' hlo hY F n _ hF hro ?_
          intro e s2 ρ2 lh2 a2 w2 hk hr2
          cases e with
          | normal =>
            obtain ⟨⟨hp, hlt⟩, hk⟩ := hk
            obtain ⟨_, ρ3, hr3, _⟩ := wk_sound hk hr2 hlo (hhs _)
            exact ⟨_, hlt, I.next i, ρ3, lh2, hp, rfl, hr3⟩
          | exit id' => exact hQ.inBlk id (.exit id') _ _ _ _ _ hk hr2
          | ret => exact hQ .ret _ _ _ _ _ hk hr2
      · split at hw
        · rename_i I hI
          obtain ⟨hw0, hwf, hwt⟩ := hw
          refine wpIn_block ?_
          have hhs : ∀ b i, hsC (tplOf2 I s b i).hs = st.hs := fun b i => hr.hc
          have go : ∀ {s' : St} {ρ' : Rho} {lh' : Lam} {a' : Act} {w' : World} {b : Bool} {i : I.ι}, (goOn2 I lo s s' b i).holds → Reach X E.G st s' ρ' lh' a' w' → ∃ ρ2, I.pre b i ∧ Reach X E.G st (tplOf2 I s b i) ρ2 lh' a' w' := by
            intro s' ρ' lh' a' w' b i h hr'
            cases b
            · obtain ⟨hp, hk⟩ := h
              obtain ⟨_, ρ3, hr3, _⟩ := wk_sound hk hr' hlo (hhs _ _)
              exact ⟨ρ3, hp, hr3⟩
            · obtain ⟨hp, hk⟩ := h
              obtain ⟨_, ρ3, hr3, _⟩ := wk_sound hk hr' hlo (hhs _ _)
              exact ⟨ρ3, hp, hr3⟩
          refine wpIn_loop_ex (fun m a w => ∃ b i ρ lh, I.pre b i ∧ I.μ i = m ∧ Reach X E.G st (tplOf2 I s b i) ρ lh a w) ?_ ?_
          · obtain ⟨ρ', hpre, hr'⟩ := go hw0 hr
            exact ⟨_, _, I.init, ρ', lh, hpre, rfl, hr'⟩
          · rintro m a' w' ⟨b, i, ρ', lh', hi, rfl, hr'⟩
            have hb : (wpCode E f A Y lo b' (tplOf2 I s b i) fun e s' => match e with
                | .normal => .vc (I.μ (I.next i) < I.μ i) (goOn2 I lo s s' (I.pick s') (I.next i))
                | .exit id' => SE.inBlk id K (.exit id') s'
                | .ret => K .ret s').holds := by
              cases b
              · exact hwf i hi
              · exact hwt i hi
            refine hC A Y lo b' _ _ hb st ρ' lh' a' w' hr' hlo hY F n _ hF hro ?_
            intro e s2 ρ2 lh2 a2 w2 hk hr2
            cases e with
            | normal =>
              obtain ⟨hlt, hk⟩ := hk
              obtain ⟨ρ3, hp, hr3⟩ := go hk hr2
              exact ⟨_, hlt, _, I.next i, ρ3, lh2, hp, rfl, hr3⟩
            | exit id' => exact hQ.inBlk id (.exit id') _ _ _ _ _ hk hr2
            | ret => exact hQ .ret _ _ _ _ _ hk hr2
        · exact gen hw
    | rangeFunc g ps as bd =>
      simp only [wpCode] at hw
      exact wpIn_block (hR A (A.iter id) Y g ps as bd s _ hw st ρ lh a w hr hY F n _ hF hro (hQ.inBlk id))
    | _ => exact gen hw
  | loop b =>
    refine wpIn_loop_ex (fun m a w => m ≤ f ∧ ∃ s ρ lh, Reach X E.G st s ρ lh a w ∧ (wpCode E (m + 1) A Y lo (.loop b) s K).holds) ⟨f, Nat.le_refl _, s, ρ, lh, hr, hw⟩ ?_
    rintro m a' w' ⟨hm, s1, ρ1, lh1, hr1, hw1⟩
    simp only [wpCode] at hw1
    refine hCs m hm A Y lo b s1 _ hw1 st ρ1 lh1 a' w' hr1 hlo hY F n _ hF hro ?_
    intro e s2 ρ2 lh2 a2 w2 hk hr2
    cases e with
    | normal =>
      cases m with
      | zero => exact hk.elim
      | succ m => exact ⟨m, Nat.lt_succ_self _, by omega, s2, ρ2, lh2, hr2, hk⟩
    | exit id => exact hQ (.exit id) _ _ _ _ _ hk hr2
    | ret => exact hQ .ret _ _ _ _ _ hk hr2
  | exit id => exact wpIn_exit (hQ (.exit id) _ _ _ _ _ hw hr)
  | ret => exact wpIn_ret (hQ .ret _ _ _ _ _ hw hr)
  | _ => exact hw.elim

theorem all_sound (hE : EnvOK P E) : ∀ f, (∀ g, g ≤ f → CodeS P X E g) ∧ (∀ g, g ≤ f → RangeS P X E g) ∧ ∀ g, g ≤ f → YieldS P X E g := by
  intro f
  induction f with
  | zero =>
    refine ⟨fun g hg => ?_, fun g hg => ?_, fun g hg => ?_⟩
    · obtain rfl : g = 0 := by omega
      intro A Y lo c s K hw; exact hw.elim
    · obtain rfl : g = 0 := by omega
      intro A B Y g ps as bd s K hw; exact hw.elim
    · obtain rfl : g = 0 := by omega
      intro A Y L _ st F n Q _ s L0 o c fo K _ _ _ hw; exact hw.elim
  | succ f ih =>
    obtain ⟨h1, h2, h3⟩ := ih
    refine ⟨fun g hg => ?_, fun g hg => ?_, fun g hg => ?_⟩
    · by_cases he : g = f + 1
      · subst he; exact code_sound hE h1 (h2 f (Nat.le_refl _))
      · exact h1 g (by omega)
    · by_cases he : g = f + 1
      · subst he; exact range_sound hE (h1 f (Nat.le_refl _)) (h3 f (Nat.le_refl _))
      · exact h2 g (by omega)
    · by_cases he : g = f + 1
      · subst he; exact yield_sound (h1 f (Nat.le_refl _))
      · exact h3 g (by omega)
theorem wpCode_sound (hE : EnvOK P E) (f : Nat) : CodeS P X E f := (all_sound hE f).1 f (Nat.le_refl _)
end
end Go.SE
/- Arguments seen as values without owned blocks; names changed in results. -/
namespace Go.SE
open Go

abbrev VK := SV → List Nat → Tr
def vwL (f : SV → List Nat → VK → Tr) : List SV → List Nat → (List SV → List Nat → Tr) → Tr
  | [], B, k => k [] B
  | x :: r, B, k => f x B fun x' B => vwL f r B fun r' B => k (x' :: r') B
def vwS (f : SV → List Nat → VK → Tr) : List Seg → List Nat → (List Seg → List Nat → Tr) → Tr
  | [], B, k => k [] B
  | .one v :: r, B, k => f v B fun v' B => vwS f r B fun r' B => k (.one v' :: r') B
  | [.spare], B, k => k [.spare] B
  | .spare :: _ :: _, _, _ => .fail
  | g :: r, B, k => vwS f r B fun r' B => k (g :: r') B
def rowsOf (f : SV → List Nat → VK → Tr) : List Seg → List Nat → (List (List (BitVec 8)) → List Nat → Tr) → Tr
  | [], B, k => k [] B
  | .one v :: r, B, k => f v B fun v' B => match v' with
    | .nils => rowsOf f r B fun rs B => k ([] :: rs) B
    | .sl 1 _ (.b8s _ xs) => rowsOf f r B fun rs B => k (xs :: rs) B
    | _ => .fail
  | _, _, _ => .fail
def posSegs : List Seg → Bool
  | .one _ :: _ => true
  | .b8s n _ :: _ => decide (0 < n)
  | .b32s n _ :: _ => decide (0 < n)
  | .ints n _ :: _ => decide (0 < n)
  | _ => false
def vw : Nat → SV → List Nat → VK → Tr
  | 0, _, _, _ => .fail
  | f + 1, x, B, k => match x with
    | .ptr id b => .blk id fun g => match posSegs g with
      | true => vwS (vw f) g (id :: B) fun g' B => k (.ip g' b) B
      | false => .fail
    | .ptri id b i => .blk id fun g => match posSegs g with
      | true => vwS (vw f) g (id :: B) fun g' B => k (.ipi g' b i) B
      | false => .fail
    | .os id es n => .blk id fun g => match g with
      | .b8s m xs :: _ => .vc (m = mulE es n) (k (.sl es n (.b8s m xs)) (id :: B))
      | .ints m xs :: _ => match es with
        | 1 => .vc (m = n) (k (.sl 1 n (.ints m xs)) (id :: B))
        | _ => .fail
      | .rows m xs :: _ => match es with
        | 1 => .vc (m = n) (k (.sl 1 n (.rows m xs)) (id :: B))
        | _ => .fail
      | .one v :: r => match es with
        | 1 => rowsOf (vw f) (.one v :: r) (id :: B) fun rs B => .vc (rs.length = n) (k (.sl 1 n (.rows n rs)) B)
        | _ => .fail
      | _ => .fail
    | .osub id 1 off n => .blk id fun g => match g with
      | .b8s m xs :: _ => .vc (off + n ≤ m) (k (.sl 1 n (.b8s n ((xs.drop off).take n))) (id :: B))
      | _ => .fail
    | .osub _ _ _ _ => .fail
    | .agg o => vwS (vw f) o B fun o' B => k (.agg o') B
    | .fn g a b => vwL (vw f) a B fun a' B => vwL (vw f) b B fun b' B => k (.fn g a' b') B
    | .yv _ => .fail
    | .tup _ => .fail
    | x => k x B

section
variable {X : Nat → Prop} {G : List (Nat × SV)} {s : St} {ρ : Rho} {lh : Lam} {w : World}

/-- The blocks of these names are nobody's there. -/
def Avoid (s : St) (ρ : Rho) (B : List Nat) (own : Nat → Prop) : Prop := ∀ id, id ∈ B → ∀ g b sz, s.blk id = some g → ρ id = some (b, sz) → sz ≠ 0 → ¬ own b
def VG (X : Nat → Prop) (s : St) (ρ : Rho) (lh : Lam) (w : World) (B : List Nat) (x : SV) (v : Value) : Prop := ∀ own', (∀ b, own' b → Own X s ρ lh b) → Avoid s ρ B own' → Den0 w own' x v
def VGS (X : Nat → Prop) (s : St) (ρ : Rho) (lh : Lam) (w : World) (B : List Nat) (o : List Seg) (l : List Value) : Prop := ∀ own', (∀ b, own' b → Own X s ρ lh b) → Avoid s ρ B own' → DenS0 w own' o l
def VGL (X : Nat → Prop) (s : St) (ρ : Rho) (lh : Lam) (w : World) (B : List Nat) (o : List SV) (l : List Value) : Prop := ∀ own', (∀ b, own' b → Own X s ρ lh b) → Avoid s ρ B own' → Den0L w own' o l
theorem Avoid.sub {B B' : List Nat} {own : Nat → Prop} (h : Avoid s ρ B' own) (hs : ∀ id ∈ B, id ∈ B') : Avoid s ρ B own := fun id hid => h id (hs id hid)

def VOK (f : SV → List Nat → VK → Tr) : Prop := ∀ (X : Nat → Prop) (G : List (Nat × SV)) (s : St) (ρ : Rho) (lh : Lam) (w : World), SatH X G s ρ lh w → ∀ (x : SV) (v : Value) (B : List Nat) (k : VK) (e : Eff) (rd : List Nat), Den w (Own X s ρ lh) ρ lh x v → (f x B k).Ok s.blk e rd →
  ∃ x' B' rd', (k x' B').Ok s.blk e rd' ∧ (∀ id ∈ B, id ∈ B') ∧ VG X s ρ lh w B' x' v

theorem vwL_ok {f : SV → List Nat → VK → Tr} (hf : VOK f) (hs : SatH X G s ρ lh w) : ∀ (xs : List SV) (l : List Value) (B : List Nat) (k : List SV → List Nat → Tr) (e : Eff) (rd : List Nat), DenL w (Own X s ρ lh) ρ lh xs l → (vwL f xs B k).Ok s.blk e rd →
    ∃ xs' B' rd', (k xs' B').Ok s.blk e rd' ∧ (∀ id ∈ B, id ∈ B') ∧ VGL X s ρ lh w B' xs' l := by
  intro xs
  induction xs with
  | nil => intro l B k e rd hd hok; cases hd; exact ⟨[], B, rd, hok, fun _ h => h, fun _ _ _ => .nil⟩
  | cons x r ih =>
    intro l B k e rd hd hok
    cases hd with
    | cons a b =>
      obtain ⟨x', B1, rd1, h1, h2, h3⟩ := hf X G s ρ lh w hs _ _ _ _ _ _ a hok
      obtain ⟨r', B2, rd2, h4, h5, h6⟩ := ih _ _ _ _ _ b h1
      exact ⟨x' :: r', B2, rd2, h4, fun id h => h5 id (h2 id h), fun own' ho ha => .cons (h3 own' ho (ha.sub h5)) (h6 own' ho ha)⟩

theorem vwS_ok {f : SV → List Nat → VK → Tr} (hf : VOK f) (hs : SatH X G s ρ lh w) : ∀ (o : List Seg) (l : List Value) (B : List Nat) (k : List Seg → List Nat → Tr) (e : Eff) (rd : List Nat), DenS w (Own X s ρ lh) ρ lh o l → (vwS f o B k).Ok s.blk e rd →
    ∃ o' B' rd', (k o' B').Ok s.blk e rd' ∧ (∀ id ∈ B, id ∈ B') ∧ VGS X s ρ lh w B' o' l := by
  intro o
  induction o with
  | nil => intro l B k e rd hd hok; cases hd; exact ⟨[], B, rd, hok, fun _ h => h, fun _ _ _ => .nil⟩
  | cons g r ih =>
    intro l B k e rd hd hok
    have typed : (∀ v, g ≠ .one v) → g.size ≠ none → (vwS f r B fun r' B => k (g :: r') B).Ok s.blk e rd → ∃ o' B' rd', (k o' B').Ok s.blk e rd' ∧ (∀ id ∈ B, id ∈ B') ∧ VGS X s ρ lh w B' o' l := fun h1 h2 hok => by
      obtain ⟨l1, l2, rfl, d1, d2⟩ := hd.inv_seg h1
      obtain ⟨r', B2, rd2, h4, h5, h6⟩ := ih _ _ _ _ _ d2 hok
      exact ⟨g :: r', B2, rd2, h4, h5, fun own' ho ha => (d1.stab (Stab.of_sub ho)).append (h6 own' ho ha) h2⟩
    cases g with
    | one v =>
      obtain ⟨x0, l2, rfl, d1, d2, d3⟩ := hd.inv_one
      obtain ⟨x', B1, rd1, h1, h2, h3⟩ := hf X G s ρ lh w hs _ _ _ _ _ _ d1 hok
      obtain ⟨r', B2, rd2, h4, h5, h6⟩ := ih _ _ _ _ _ d3 h1
      exact ⟨_, B2, rd2, h4, fun id h => h5 id (h2 id h), fun own' ho ha => .one (h3 own' ho (ha.sub h5)) d2 (h6 own' ho ha)⟩
    | ints n xs => exact typed (by simp) (by simp [Seg.size]) hok
    | b8s n xs => exact typed (by simp) (by simp [Seg.size]) hok
    | b32s n xs => exact typed (by simp) (by simp [Seg.size]) hok
    | rows n xs => exact typed (by simp) (by simp [Seg.size]) hok
    | spare =>
      cases r with
      | nil =>
        obtain ⟨l1, l2, rfl, d1, d2⟩ := hd.inv_seg (by intro v; simp)
        cases d2
        rw [List.append_nil]
        exact ⟨_, B, rd, hok, fun _ h => h, fun own' ho _ => d1.stab (Stab.of_sub ho)⟩
      | cons _ _ => exact hok.elim

theorem rowsOf_ok {f : SV → List Nat → VK → Tr} (hf : VOK f) (hs : SatH X G s ρ lh w) : ∀ (o : List Seg) (l : List Value) (B : List Nat) (k : List (List (BitVec 8)) → List Nat → Tr) (e : Eff) (rd : List Nat), DenS w (Own X s ρ lh) ρ lh o l → (rowsOf f o B k).Ok s.blk e rd →
    ∃ rs B' rd', (k rs B').Ok s.blk e rd' ∧ (∀ id ∈ B, id ∈ B') ∧ ∀ own', (∀ b, own' b → Own X s ρ lh b) → Avoid s ρ B' own' → DenR w own' rs l := by
  intro o
  induction o with
  | nil => intro l B k e rd hd hok; cases hd; exact ⟨[], B, rd, hok, fun _ h => h, fun _ _ _ => .nil⟩
  | cons g r ih =>
    intro l B k e rd hd hok
    cases g with
    | one v =>
      obtain ⟨x0, l2, rfl, d1, d2, d3⟩ := hd.inv_one
      obtain ⟨x', B1, rd1, h1, h2, h3⟩ := hf X G s ρ lh w hs _ _ _ _ _ _ d1 hok
      split at h1
      · obtain ⟨rs, B2, rd2, h4, h5, h6⟩ := ih _ _ _ _ _ d3 h1
        refine ⟨_, B2, rd2, h4, fun id h => h5 id (h2 id h), fun own' ho ha => .cons ?_ (h6 own' ho ha)⟩
        have := h3 own' ho (ha.sub h5)
        cases this
        have d := DenS0.b8s (w := w) (own := own') (n := 0) (xs := []) rfl .nil
        exact .sl d (by simp) (Nat.le_refl _) (.inl (by simp))
      · rename_i n m xs
        obtain ⟨rs, B2, rd2, h4, h5, h6⟩ := ih _ _ _ _ _ d3 h1
        refine ⟨_, B2, rd2, h4, fun id h => h5 id (h2 id h), fun own' ho ha => .cons ?_ (h6 own' ho ha)⟩
        have h0 := h3 own' ho (ha.sub h5)
        have h00 := h0
        cases h0 with
        | sl hl hln hc hp =>
          cases hl with
          | b8s hn hr =>
            cases hr
            simp at hln
            rw [← hn, ← hln] at h00
            rw [← hln]
            exact h00
      · exact h1.elim
    | _ => exact hok.elim

theorem posSegs_len {own : Nat → Prop} {g : List Seg} {l : List Value} (h : posSegs g = true) (hd : DenS w own ρ lh g l) : 0 < l.length := by
  cases g with
  | nil => cases h
  | cons x r =>
    cases x with
    | one v => obtain ⟨y, l2, rfl, _⟩ := hd.inv_one; simp
    | ints n xs =>
      obtain ⟨l1, l2, rfl, d1, _⟩ := hd.inv_seg (by intro v; simp)
      have := d1.size (k := n) rfl
      have := of_decide_eq_true h
      simp; omega
    | b8s n xs =>
      obtain ⟨l1, l2, rfl, d1, _⟩ := hd.inv_seg (by intro v; simp)
      have := d1.size (k := n) rfl
      have := of_decide_eq_true h
      simp; omega
    | b32s n xs =>
      obtain ⟨l1, l2, rfl, d1, _⟩ := hd.inv_seg (by intro v; simp)
      have := d1.size (k := n) rfl
      have := of_decide_eq_true h
      simp; omega
    | rows n xs => cases h
    | spare => cases h

theorem liesAt_self {cs : Array Value} {l : List Value} (h : cs.toList = l) : liesAt cs 0 l := by unfold liesAt; rw [h]; simp

/-- An owned block, seen from a world in which it is nobody's. -/
theorem block_view (hs : SatH X G s ρ lh w) {id : Nat} {g : List Seg} {b sz : Nat} (hg : s.blk id = some g) (hr : ρ id = some (b, sz)) : ∃ l, DenS w (Own X s ρ lh) ρ lh g l ∧ l.length = sz ∧
    ∀ (B : List Nat) (own' : Nat → Prop), id ∈ B → Avoid s ρ B own' → sz ≠ 0 → ∃ cs elem, w.heap[b]? = some (.cells cs elem (0, 0)) ∧ ¬ own' b ∧ cs.toList = l := by
  obtain ⟨b', sz', e, l, hd, hl, hb⟩ := hs.blk id g hg
  rw [hr] at e; cases e
  exact ⟨l, hd, hl, fun B own' hin ha hz => let ⟨cs, elem, h1, h2⟩ := hb hz; ⟨cs, elem, h1, ha id hin g b sz hg hr hz, h2⟩⟩

theorem view_slice {own' : Nat → Prop} {es n cap off b : Nat} {g : Seg} {l l0 : List Value} {cs : Array Value} {elem : TypeId} (hd : DenS0 w own' [g] l) (hln : l.length = n * es) (hc : n ≤ cap) (hp : l = [] ∨ (w.heap[b]? = some (.cells cs elem (0, 0)) ∧ ¬ own' b ∧ cs.toList = l0 ∧ (l0.drop off).take l.length = l)) :
    Den0 w own' (.sl es n g) (.slice (some ⟨b, off, none⟩) n cap) := by
  refine .sl hd hln hc (hp.imp (fun x => x) fun ⟨h1, h2, h3, h4⟩ => ⟨b, off, cs, elem, _, rfl, h1, h2, ?_⟩)
  unfold liesAt
  rw [h3]
  exact h4

theorem vw_ok : ∀ f, VOK (vw f) := by
  intro f
  induction f with
  | zero => intro X G s ρ lh w hs x v B k e rd hd hok; exact hok.elim
  | succ f ih =>
    intro X G s ρ lh w hs x v B k e rd hd hok
    have imm : (∀ v, Den w (Own X s ρ lh) ρ lh x v → Den0 w (Own X s ρ lh) x v) → (k x B).Ok s.blk e rd → ∃ x' B' rd', (k x' B').Ok s.blk e rd' ∧ (∀ id ∈ B, id ∈ B') ∧ VG X s ρ lh w B' x' v := fun h1 hk =>
      ⟨x, B, rd, hk, fun _ h => h, fun own' ho _ => (h1 v hd).stab (Stab.of_sub ho)⟩
    unfold vw at hok
    split at hok
    · -- pointers
      rename_i id b
      obtain ⟨g, rd', hg, _, hok⟩ := hok
      dsimp only at hok
      split at hok
      case h_2 => exact hok.elim
      rename_i hpos
      cases hd with
      | im h0 => cases h0
      | @ptr _ _ blk sz hr =>
        obtain ⟨l, d1, d2, d3⟩ := block_view hs hg hr
        obtain ⟨o', B', rd2, h1, h2, h3⟩ := vwS_ok ih hs _ _ _ _ _ _ d1 hok
        refine ⟨_, B', rd2, h1, fun i hi => h2 i (by simp [hi]), fun own' ho ha => ?_⟩
        have hpl := posSegs_len hpos d1
        obtain ⟨cs, elem, c1, c2, c3⟩ := d3 B' own' (h2 id (by simp)) ha (by omega)
        have := Den0.ip (base := b) c1 c2 (h3 own' ho ha) (liesAt_self c3)
        rwa [Nat.zero_add] at this
    · rename_i id b i
      obtain ⟨g, rd', hg, _, hok⟩ := hok
      dsimp only at hok
      split at hok
      case h_2 => exact hok.elim
      rename_i hpos
      cases hd with
      | im h0 => cases h0
      | @ptri _ _ _ blk sz hr =>
        obtain ⟨l, d1, d2, d3⟩ := block_view hs hg hr
        obtain ⟨o', B', rd2, h1, h2, h3⟩ := vwS_ok ih hs _ _ _ _ _ _ d1 hok
        refine ⟨_, B', rd2, h1, fun i hi => h2 i (by simp [hi]), fun own' ho ha => ?_⟩
        have hpl := posSegs_len hpos d1
        obtain ⟨cs, elem, c1, c2, c3⟩ := d3 B' own' (h2 id (by simp)) ha (by omega)
        have := Den0.ipi (base := b) (idx := i) c1 c2 (h3 own' ho ha) (liesAt_self c3)
        rwa [Nat.zero_add] at this
    · -- whole slices
      rename_i id es n
      obtain ⟨g, rd', hg, _, hok⟩ := hok
      dsimp only at hok
      have hv : ∃ b sz, ρ id = some (b, sz) ∧ ((∃ cap, v = .slice (some ⟨b, 0, none⟩) n cap ∧ n ≤ cap) ∨ (v = .slice none 0 0 ∧ n = 0)) := by
        cases hd with
        | im h0 => cases h0
        | os hr hc hz => exact ⟨_, _, hr, .inl ⟨_, rfl, hc⟩⟩
        | osn hr => exact ⟨_, _, hr, .inr ⟨rfl, rfl⟩⟩
      obtain ⟨b, sz, hr, hv⟩ := hv
      obtain ⟨l, d1, d2, d3⟩ := block_view hs hg hr
      have key : ∀ {g0 : Seg} {B' : List Nat} {rd2 : List Nat}, (k (.sl es n g0) B').Ok s.blk e rd2 → (∀ i ∈ id :: B, i ∈ B') →
          (∀ own', (∀ b, own' b → Own X s ρ lh b) → Avoid s ρ B' own' → ∃ l1 l2, l = l1 ++ l2 ∧ l1.length = n * es ∧ DenS0 w own' [g0] l1) →
          ∃ x' B' rd', (k x' B').Ok s.blk e rd' ∧ (∀ id ∈ B, id ∈ B') ∧ VG X s ρ lh w B' x' v := fun {g0 B' rd2} hk hsub hden => by
        refine ⟨_, B', rd2, hk, fun i hi => hsub i (by simp [hi]), fun own' ho ha => ?_⟩
        obtain ⟨l1, l2, hll, hl1, hd0⟩ := hden own' ho ha
        rcases hv with ⟨cap, rfl, hc⟩ | ⟨rfl, rfl⟩
        · by_cases hsz : sz = 0
          · refine view_slice (cs := #[]) (elem := 0) (l0 := []) hd0 hl1 hc (.inl ?_)
            have : l1.length + l2.length = 0 := by rw [← List.length_append, ← hll, d2, hsz]
            exact List.eq_nil_of_length_eq_zero (by omega)
          · obtain ⟨cs, elem, c1, c2, c3⟩ := d3 B' own' (hsub id (by simp)) ha hsz
            exact view_slice hd0 hl1 hc (.inr ⟨c1, c2, c3, by rw [hll]; simp⟩)
        · exact .sl hd0 hl1 (Nat.le_refl _) (.inl (List.eq_nil_of_length_eq_zero (by simpa using hl1)))
      have typed : ∀ {g0 : Seg} {r : List Seg} {m : Nat}, g = g0 :: r → (∀ v, g0 ≠ .one v) → g0.size = some m → m = n * es → (k (.sl es n g0) (id :: B)).Ok s.blk e rd' → ∃ x' B' rd', (k x' B').Ok s.blk e rd' ∧ (∀ id ∈ B, id ∈ B') ∧ VG X s ρ lh w B' x' v :=
        fun {g0 r m} hgr hne hsz hm hk => key hk (fun _ h => h) fun own' ho ha => by
          subst hgr
          obtain ⟨l1, l2, hll, e1, _⟩ := d1.inv_seg hne
          exact ⟨l1, l2, hll, by rw [e1.size hsz, hm], e1.stab (Stab.of_sub ho)⟩
      split at hok
      · rename_i m xs r
        obtain ⟨hm, hok⟩ := hok
        rw [mulE_eq] at hm
        exact typed rfl (by simp) rfl hm hok
      · rename_i m xs r
        split at hok
        · obtain ⟨hm, hok⟩ := hok
          exact typed rfl (by simp) rfl (by omega) hok
        · exact hok.elim
      · rename_i m xs r
        split at hok
        · obtain ⟨hm, hok⟩ := hok
          exact typed rfl (by simp) rfl (by omega) hok
        · exact hok.elim
      · rename_i v0 r
        split at hok
        · obtain ⟨rs, B', rd2, ⟨hrn, h1⟩, h2, h3⟩ := rowsOf_ok ih hs _ _ _ _ _ _ d1 hok
          refine key h1 h2 fun own' ho ha => ⟨l, [], by simp, ?_, ?_⟩
          · have := (h3 own' ho ha).length
            omega
          · have := DenS0.rows hrn (h3 own' ho ha) (.nil (w := w) (own := own'))
            rwa [List.append_nil] at this
        · exact hok.elim
      · exact hok.elim
    · rename_i id off n
      obtain ⟨g, rd', hg, _, hok⟩ := hok
      dsimp only at hok
      split at hok
      · rename_i m xs r
        obtain ⟨hle, hok⟩ := hok
        refine ⟨_, _, rd', hok, fun i hi => by simp [hi], fun own' ho ha => ?_⟩
        have hxl : xs.length = m := by
          obtain ⟨b', sz', e1, l, hd1, hl, hb⟩ := hs.blk id _ hg
          obtain ⟨l1, l2, rfl, hd2, _⟩ := hd1.inv_seg (by intro v; simp)
          cases hd2 with
          | b8s hn _ => exact hn
        have hl : ((xs.drop off).take n).length = n := by simp; omega
        have hd0 : DenS0 w own' [.b8s n ((xs.drop off).take n)] (((xs.drop off).take n).map v8) := by
          have := DenS0.b8s (w := w) (own := own') hl .nil
          rwa [List.append_nil] at this
        cases hd with
        | im h0 => cases h0
        | @osub _ _ _ _ cap b sz hr hc hz =>
          obtain ⟨l, d1, d2, d3⟩ := block_view hs hg hr
          by_cases hn0 : n = 0
          · subst hn0
            exact .sl hd0 (by simp) hc (.inl (by simp))
          · obtain ⟨l1, l2, rfl, e1, _⟩ := d1.inv_seg (by intro v; simp)
            cases e1 with
            | b8s hn' h0 =>
              cases h0
              obtain ⟨cs, elem, c1, c2, c3⟩ := d3 _ own' (by simp) ha (by simp at d2; omega)
              refine view_slice hd0 (by simp; omega) hc (.inr ⟨c1, c2, c3, ?_⟩)
              rw [List.append_nil, List.length_map, hl, List.drop_append_of_le_length (by simp; omega), List.take_append_of_le_length (by simp; omega), ← List.map_drop, ← List.map_take]
        | osubn hr => exact .sl hd0 (by simp) (Nat.le_refl _) (.inl (by simp))
        | osubz hr => exact .sl hd0 (by simp) (Nat.le_refl _) (.inl (by simp))
      · exact hok.elim
    · exact hok.elim
    · rename_i o
      obtain ⟨l, rfl, hl⟩ : ∃ l, v = .agg l.toArray ∧ DenS w (Own X s ρ lh) ρ lh o l := by
        cases hd with
        | im h0 => cases h0 with
          | agg h => exact ⟨_, rfl, h.full⟩
        | agg h => exact ⟨_, rfl, h⟩
      obtain ⟨o', B', rd2, h1, h2, h3⟩ := vwS_ok ih hs _ _ _ _ _ _ hl hok
      exact ⟨_, B', rd2, h1, h2, fun own' ho ha => .agg (h3 own' ho ha)⟩
    · rename_i g a b
      obtain ⟨v1, v2, rfl, d1, d2⟩ := den_fn hd
      obtain ⟨a', B1, rd1, h1, h2, h3⟩ := vwL_ok ih hs _ _ _ _ _ _ d1 hok
      obtain ⟨b', B2, rd2, h4, h5, h6⟩ := vwL_ok ih hs _ _ _ _ _ _ d2 h1
      refine ⟨_, B2, rd2, h4, fun i hi => h5 i (h2 i hi), fun own' ho ha => ?_⟩
      have := Den0.fn (f := g) (h3 own' ho (ha.sub h5)) (h6 own' ho ha)
      simpa using this
    · exact hok.elim
    · exact hok.elim
    · rename_i hn1 hn2 hn3 hn4 hn5 hn6 hn7 hn8 hn9
      refine imm (fun v hv => ?_) hok
      cases hv with
      | im h0 => exact h0
      | ptr _ => exact (hn1 _ _ rfl).elim
      | ptri _ => exact (hn2 _ _ _ rfl).elim
      | os _ _ _ => exact (hn3 _ _ _ rfl).elim
      | osn _ => exact (hn3 _ _ _ rfl).elim
      | osub _ _ _ => exact (hn5 _ _ _ _ rfl).elim
      | osubn _ => exact (hn5 _ _ _ _ rfl).elim
      | osubz _ => exact (hn5 _ _ _ _ rfl).elim
      | fn _ _ => exact (hn7 _ _ _ rfl).elim
      | yv _ => exact (hn8 _ rfl).elim
      | agg _ => exact (hn6 _ rfl).elim
      | tup _ => exact (hn9 _ rfl).elim
end
end Go.SE
/- Names changed in results. -/
namespace Go.SE
open Go

def renS (g : SV → SV) : List Seg → List Seg
  | [] => []
  | .one v :: r => .one (g v) :: renS g r
  | x :: r => x :: renS g r
def ren : Nat → (Nat → Nat) → SV → SV
  | 0, _, _ => .any
  | f + 1, σ, x => match x with
    | .ptr id b => .ptr (σ id) b
    | .ptri id b i => .ptri (σ id) b i
    | .os id es n => .os (σ id) es n
    | .osub id es o n => .osub (σ id) es o n
    | .fn g a b => .fn g (a.map (ren f σ)) (b.map (ren f σ))
    | .agg o => .agg (renS (ren f σ) o)
    | .tup a => .tup (a.map (ren f σ))
    | .yv _ => .any
    | x => x
def pureS (g : SV → Bool) : List Seg → Bool
  | [] => true
  | .one v :: r => g v && pureS g r
  | .rows _ _ :: _ => false
  | _ :: r => pureS g r
/-- The value speaks of no block without a name. -/
def pureV : Nat → SV → Bool
  | 0, _ => true
  | f + 1, x => match x with
    | .ip _ _ => false
    | .ipi _ _ _ => false
    | .sl _ _ _ => false
    | .fn _ a b => a.all (pureV f) && b.all (pureV f)
    | .agg o => pureS (pureV f) o
    | .tup a => a.all (pureV f)
    | _ => true

section
variable {w : World} {own own' : Nat → Prop} {ρ ρ' : Rho} {lh lh' : Lam} {σ : Nat → Nat}
theorem den_agg {o : List Seg} {v : Value} (hd : Den w own ρ lh (.agg o) v) : ∃ l, v = .agg l.toArray ∧ DenS w own ρ lh o l := by
  cases hd with
  | im h0 => cases h0 with
    | agg h => exact ⟨_, rfl, h.full⟩
  | agg h => exact ⟨_, rfl, h⟩
theorem renL_den {f : Nat} (ih : ∀ x v, ((∀ b, own' b → own b) ∨ pureV f x = true) → Den w own ρ lh x v → Den w own' ρ' lh' (ren f σ x) v) : ∀ (xs : List SV) (l : List Value), ((∀ b, own' b → own b) ∨ xs.all (pureV f) = true) → DenL w own ρ lh xs l → DenL w own' ρ' lh' (xs.map (ren f σ)) l := by
  intro xs
  induction xs with
  | nil => intro l _ h; cases h; exact .nil
  | cons x r ih2 =>
    intro l hc h
    cases h with
    | cons a b => exact .cons (ih _ _ (hc.imp (fun x => x) (fun h => by simp only [List.all_cons, Bool.and_eq_true] at h; exact h.1)) a) (ih2 _ (hc.imp (fun x => x) (fun h => by simp only [List.all_cons, Bool.and_eq_true] at h; exact h.2)) b)
theorem renS_den {f : Nat} (ih : ∀ x v, ((∀ b, own' b → own b) ∨ pureV f x = true) → Den w own ρ lh x v → Den w own' ρ' lh' (ren f σ x) v) : ∀ (o : List Seg) (l : List Value), ((∀ b, own' b → own b) ∨ pureS (pureV f) o = true) → DenS w own ρ lh o l → DenS w own' ρ' lh' (renS (ren f σ) o) l := by
  intro o
  induction o with
  | nil => intro l _ h; cases h; exact .nil
  | cons g r ih2 =>
    intro l hc h
    have typed : (∀ v, g ≠ .one v) → (∀ n xs, g ≠ .rows n xs) → ((∀ b, own' b → own b) ∨ pureS (pureV f) r = true) → DenS w own' ρ' lh' (g :: renS (ren f σ) r) l := fun h1 h2 hc' => by
      obtain ⟨l1, l2, rfl, d1, d2⟩ := h.inv_seg h1
      refine .seg ?_ (ih2 _ hc' d2)
      cases d1 with
      | one _ _ _ => exact absurd rfl (h1 _)
      | ints hn hr => cases hr; exact .ints hn .nil
      | b8s hn hr => cases hr; exact .b8s hn .nil
      | b32s hn hr => cases hr; exact .b32s hn .nil
      | rows hn hv hr => exact absurd rfl (h2 _ _)
      | spare hl => exact .spare hl
    cases g with
    | one v =>
      obtain ⟨x, l2, rfl, d1, d2, d3⟩ := h.inv_one
      exact .one (ih _ _ (hc.imp (fun x => x) (fun h => by simp only [pureS, Bool.and_eq_true] at h; exact h.1)) d1) d2 (ih2 _ (hc.imp (fun x => x) (fun h => by simp only [pureS, Bool.and_eq_true] at h; exact h.2)) d3)
    | rows n xs =>
      rcases hc with hc | hc
      · obtain ⟨l1, l2, rfl, d1, d2⟩ := h.inv_seg (by intro v; simp)
        exact .seg (d1.stab (Stab.of_sub hc)) (ih2 _ (.inl hc) d2)
      · cases hc
    | ints n xs => exact typed (by simp) (by simp) hc
    | b8s n xs => exact typed (by simp) (by simp) hc
    | b32s n xs => exact typed (by simp) (by simp) hc
    | spare => exact typed (by simp) (by simp) hc
theorem ren_den (hσ : ∀ id r, ρ id = some r → ρ' (σ id) = some r) : ∀ (f : Nat) (x : SV) (v : Value), ((∀ b, own' b → own b) ∨ pureV f x = true) → Den w own ρ lh x v → Den w own' ρ' lh' (ren f σ x) v := by
  intro f
  induction f with
  | zero => intro x v _ _; exact .im (.any v)
  | succ f ih =>
    intro x v hc hd
    have simple : ren (f + 1) σ x = x → (∀ {own own'} v, Den0 w own x v → Den0 w own' x v) → (∀ v, Den w own ρ lh x v → Den0 w own x v) → Den w own' ρ' lh' (ren (f + 1) σ x) v := fun h1 h2 h3 => by
      rw [h1]; exact .im (h2 v (h3 v hd))
    cases x with
    | any => exact .im (.any v)
    | bool b => exact simple rfl (fun v h => by cases h; exact .bool b) (fun v h => by cases h with | im h => exact h)
    | int n => exact simple rfl (fun v h => by cases h; exact .int n) (fun v h => by cases h with | im h => exact h)
    | b8 n => exact simple rfl (fun v h => by cases h; exact .b8 n) (fun v h => by cases h with | im h => exact h)
    | b16 n => exact simple rfl (fun v h => by cases h; exact .b16 n) (fun v h => by cases h with | im h => exact h)
    | b32 n => exact simple rfl (fun v h => by cases h; exact .b32 n) (fun v h => by cases h with | im h => exact h)
    | b64 n => exact simple rfl (fun v h => by cases h; exact .b64 n) (fun v h => by cases h with | im h => exact h)
    | str n => exact simple rfl (fun v h => by cases h; exact .str n) (fun v h => by cases h with | im h => exact h)
    | nilp => exact simple rfl (fun v h => by cases h; exact .nilp) (fun v h => by cases h with | im h => exact h)
    | nilf => exact simple rfl (fun v h => by cases h; exact .nilf) (fun v h => by cases h with | im h => exact h)
    | nils => exact simple rfl (fun v h => by cases h; exact .nils) (fun v h => by cases h with | im h => exact h)
    | ptr id b =>
      cases hd with
      | im h0 => cases h0
      | ptr e => exact .ptr (hσ _ _ e)
    | ptri id b i =>
      cases hd with
      | im h0 => cases h0
      | ptri e => exact .ptri (hσ _ _ e)
    | ip o b =>
      rcases hc with hc | hc
      · cases hd with | im h0 => exact .im (h0.stab (Stab.of_sub hc))
      · cases hc
    | ipi o b i =>
      rcases hc with hc | hc
      · cases hd with | im h0 => exact .im (h0.stab (Stab.of_sub hc))
      · cases hc
    | os id es n =>
      cases hd with
      | im h0 => cases h0
      | os e h1 h2 => exact .os (hσ _ _ e) h1 h2
      | osn e => exact .osn (hσ _ _ e)
    | osub id es o n =>
      cases hd with
      | im h0 => cases h0
      | osub e h1 h2 => exact .osub (hσ _ _ e) h1 h2
      | osubn e => exact .osubn (hσ _ _ e)
      | osubz e => exact .osubz (hσ _ _ e)
    | sl es n g =>
      rcases hc with hc | hc
      · cases hd with | im h0 => exact .im (h0.stab (Stab.of_sub hc))
      · cases hc
    | fn g a b =>
      obtain ⟨v1, v2, rfl, d1, d2⟩ := den_fn hd
      have h1 : (∀ b, own' b → own b) ∨ a.all (pureV f) = true := hc.imp (fun x => x) fun h => by simp only [pureV, Bool.and_eq_true] at h; exact h.1
      have h2 : (∀ b, own' b → own b) ∨ b.all (pureV f) = true := hc.imp (fun x => x) fun h => by simp only [pureV, Bool.and_eq_true] at h; exact h.2
      have := Den.fn (f := g) (renL_den ih a _ h1 d1) (renL_den ih b _ h2 d2)
      simpa [ren] using this
    | yv L => exact .im (.any v)
    | agg o =>
      obtain ⟨l, rfl, hl⟩ := den_agg hd
      exact .agg (renS_den ih o l hc hl)
    | tup a =>
      cases hd with
      | im h0 => cases h0
      | tup h => exact .tup (renL_den ih a _ hc h)
end
end Go.SE
/- Functions: the specification's form; arguments. -/
namespace Go.SE
open Go

inductive Mode where
  | gen | bytes | rows | own
def asBytes (x : SV) (k : SV → Tr) : Tr := match x with
  | .nils => k (.sl 1 0 (.b8s 0 []))
  | .sl 1 _ (.b8s _ xs) => k (.sl 1 xs.length (.b8s xs.length xs))
  | _ => .fail
def asRows (x : SV) (k : SV → Tr) : Tr := match x with
  | .nils => k (.sl 1 0 (.rows 0 []))
  | .sl 1 _ (.rows _ xs) => k (.sl 1 xs.length (.rows xs.length xs))
  | _ => .fail
def viewArgs : List Mode → List SV → List Nat → List (Nat × List Seg) → (List SV → List Nat → List (Nat × List Seg) → Tr) → Tr
  | [], [], B, O, k => k [] B O
  | m :: ms, x :: xs, B, O, k => match m with
    | .gen => vw 6 x B fun x' B => viewArgs ms xs B O fun L B O => k (x' :: L) B O
    | .bytes => vw 6 x B fun x' B => asBytes x' fun x' => viewArgs ms xs B O fun L B O => k (x' :: L) B O
    | .rows => vw 6 x B fun x' B => asRows x' fun x' => viewArgs ms xs B O fun L B O => k (x' :: L) B O
    | .own => match x with
      | .ptr id b => .blk id fun g => vwS (vw 6) g B fun g' B => viewArgs ms xs B (O ++ [(id, g')]) fun L B O' => k (.ptr O.length b :: L) B O'
      | .os id es n => .blk id fun g => vwS (vw 6) g B fun g' B => viewArgs ms xs B (O ++ [(id, g')]) fun L B O' => k (.os O.length es n :: L) B O'
      | _ => .fail
  | _, _, _, _, _ => .fail
/-- What a function hands back: its value, what its own blocks hold, its new blocks. -/
structure Out where
  tv : SV
  own : List (List Seg)
  new : List (List Seg)
inductive FPost where
  | ret (out : Out)
  | vc (p : Prop) (k : FPost)
  | split (b : Bool) (t f : FPost)
  | fail
def FPost.tr : FPost → (Out → Tr) → Tr
  | .ret out, k => k out
  | .vc p r, k => .vc p (r.tr k)
  | .split b t f, k => .split b (t.tr k) (f.tr k)
  | .fail, _ => .fail
def FPost.Ok : FPost → Out → Prop
  | .ret o, out => out = o
  | .vc p r, out => p ∧ r.Ok out
  | .split b t f, out => match b with
    | true => t.Ok out
    | false => f.Ok out
  | .fail, _ => False
theorem FPost.tr_ok {p : FPost} {k : Out → Tr} {h : Nat → Option (List Seg)} {e : Eff} {rd : List Nat} : (p.tr k).Ok h e rd → ∃ out, p.Ok out ∧ (k out).Ok h e rd := by
  induction p with
  | ret o => intro hk; exact ⟨o, rfl, hk⟩
  | vc q r ih => rintro ⟨hq, hk⟩; obtain ⟨out, h1, h2⟩ := ih hk; exact ⟨out, ⟨hq, h1⟩, h2⟩
  | split b t f iht ihf =>
    intro hk
    cases b
    · obtain ⟨out, h1, h2⟩ := ihf hk; exact ⟨out, h1, h2⟩
    · obtain ⟨out, h1, h2⟩ := iht hk; exact ⟨out, h1, h2⟩
  | fail => intro hk; exact hk.elim
def okIds (O B : List Nat) : Bool := match O with
  | [] => true
  | id :: r => !r.contains id && (!B.contains id && okIds r B)
def renId (O : List Nat) (fr j : Nat) : Nat := match O[j]? with
  | some id => id
  | none => fr + (j - O.length)
def pureOut (o : Out) : Bool := pureV 6 o.tv && (o.own.all (pureS (pureV 6)) && o.new.all (pureS (pureV 6)))
def zipIds : List Nat → List (List Seg) → List (Nat × List Seg)
  | id :: r, g :: gs => (id, g) :: zipIds r gs
  | _, _ => []
def effOf (fr : Nat) (O B : List Nat) (frz : Bool) (out : Out) : Eff :=
  ⟨ren 6 (renId O fr) out.tv, match frz with
    | true => B
    | false => [], zipIds O (out.own.map (renS (ren 6 (renId O fr)))), out.new.map (renS (ren 6 (renId O fr)))⟩
def isNil {α : Type} : List α → Bool
  | [] => true
  | _ => false
def specOf (frz : Bool) (modes : List Mode) (post : List SV → List (List Seg) → FPost) : Spec := fun fr args => viewArgs modes args [] [] fun L B O => match okIds (O.map (·.1)) B with
  | true => (post L (O.map (·.2))).tr fun out => match decide (out.own.length = O.length) && (decide (out.new.length ≤ 8) && (frz || (isNil B || pureOut out))) with
    | true => .done (effOf fr (O.map (·.1)) B frz out)
    | false => .fail
  | false => .fail

theorem okIds_ok {B : List Nat} : ∀ {O : List Nat}, okIds O B = true → O.Nodup ∧ ∀ id ∈ O, id ∉ B := by
  intro O
  induction O with
  | nil => intro _; simp
  | cons x r ih =>
    intro h
    simp only [okIds, Bool.and_eq_true, Bool.not_eq_true', List.contains_eq_mem, decide_eq_false_iff_not] at h
    obtain ⟨h1, h2⟩ := ih h.2.2
    refine ⟨List.nodup_cons.2 ⟨h.1, h1⟩, fun id hid => ?_⟩
    rcases List.mem_cons.1 hid with rfl | hid
    · exact h.2.1
    · exact h2 id hid

section
variable {X : Nat → Prop} {G : List (Nat × SV)} {s : St} {ρ : Rho} {lh : Lam} {w : World}

/-- What is known of the own blocks. -/
def OG (X : Nat → Prop) (s : St) (ρ : Rho) (lh : Lam) (w : World) (B : List Nat) (O : List (Nat × List Seg)) : Prop :=
  ∀ (j id : Nat) (g' : List Seg), O[j]? = some (id, g') → ∃ g b sz l, s.blk id = some g ∧ ρ id = some (b, sz) ∧ l.length = sz ∧ (sz ≠ 0 → ∃ cs elem, w.heap[b]? = some (.cells cs elem (0, 0)) ∧ cs.toList = l) ∧ VGS X s ρ lh w B g' l
theorem OG.sub {B B' : List Nat} {O : List (Nat × List Seg)} (h : OG X s ρ lh w B O) (hs : ∀ id ∈ B, id ∈ B') : OG X s ρ lh w B' O := fun j id g' e =>
  let ⟨g, b, sz, l, h1, h2, h3, h4, h5⟩ := h j id g' e
  ⟨g, b, sz, l, h1, h2, h3, h4, fun own' ho ha => h5 own' ho (ha.sub hs)⟩
/-- The local values. -/
def LG (X : Nat → Prop) (s : St) (ρ : Rho) (lh : Lam) (w : World) (B : List Nat) (O : List (Nat × List Seg)) (L : List SV) (l : List Value) : Prop :=
  ∀ (own' : Nat → Prop) (ρ0 : Rho) (lh0 : Lam), (∀ b, own' b → Own X s ρ lh b) → Avoid s ρ B own' → (∀ (j id : Nat) (g' : List Seg), O[j]? = some (id, g') → ρ0 j = ρ id) → DenL w own' ρ0 lh0 L l
def Pre (O O' : List (Nat × List Seg)) : Prop := ∀ (j : Nat) (p : Nat × List Seg), O[j]? = some p → O'[j]? = some p
theorem Pre.refl (O : List (Nat × List Seg)) : Pre O O := fun _ _ h => h
theorem Pre.snoc (O : List (Nat × List Seg)) (p : Nat × List Seg) : Pre O (O ++ [p]) := fun j q h => by rw [List.getElem?_append_left (List.getElem?_eq_some_iff.1 h).1]; exact h

theorem asBytes_ok {x : SV} {v : Value} {B : List Nat} {k : SV → Tr} {h : Nat → Option (List Seg)} {e : Eff} {rd : List Nat} (hv : VG X s ρ lh w B x v) (hok : (asBytes x k).Ok h e rd) : ∃ x', (k x').Ok h e rd ∧ VG X s ρ lh w B x' v := by
  unfold asBytes at hok
  split at hok
  · refine ⟨_, hok, fun own' ho ha => ?_⟩
    have := hv own' ho ha
    cases this
    have d := DenS0.b8s (w := w) (own := own') (n := 0) (xs := []) rfl .nil
    exact .sl d (by simp) (Nat.le_refl _) (.inl (by simp))
  · rename_i n m xs
    refine ⟨_, hok, fun own' ho ha => ?_⟩
    have h0 := hv own' ho ha
    have h00 := h0
    cases h0 with
    | sl hl hln hc hp =>
      cases hl with
      | b8s hn hr =>
        cases hr
        simp at hln
        rw [← hn, ← hln] at h00
        rw [← hln]
        exact h00
  · exact hok.elim
theorem asRows_ok {x : SV} {v : Value} {B : List Nat} {k : SV → Tr} {h : Nat → Option (List Seg)} {e : Eff} {rd : List Nat} (hv : VG X s ρ lh w B x v) (hok : (asRows x k).Ok h e rd) : ∃ x', (k x').Ok h e rd ∧ VG X s ρ lh w B x' v := by
  unfold asRows at hok
  split at hok
  · refine ⟨_, hok, fun own' ho ha => ?_⟩
    have := hv own' ho ha
    cases this
    have d := DenS0.rows (w := w) (own := own') (n := 0) (xss := []) rfl .nil .nil
    exact .sl d (by simp) (Nat.le_refl _) (.inl (by simp))
  · rename_i n m xs
    refine ⟨_, hok, fun own' ho ha => ?_⟩
    have h0 := hv own' ho ha
    have h00 := h0
    cases h0 with
    | sl hl hln hc hp =>
      cases hl with
      | rows hn hv hr =>
        cases hr
        have := hv.length
        simp at hln
        have hxn : xs.length = n := by omega
        rw [← hn, ← hxn] at h00
        rw [← hxn]
        exact h00
  · exact hok.elim

theorem viewArgs_ok (hs : SatH X G s ρ lh w) : ∀ (ms : List Mode) (xs : List SV) (l : List Value) (B : List Nat) (O : List (Nat × List Seg)) (k : List SV → List Nat → List (Nat × List Seg) → Tr) (e : Eff) (rd : List Nat), DenL w (Own X s ρ lh) ρ lh xs l → OG X s ρ lh w B O → (viewArgs ms xs B O k).Ok s.blk e rd →
    ∃ L B' O' rd', (k L B' O').Ok s.blk e rd' ∧ (∀ id ∈ B, id ∈ B') ∧ Pre O O' ∧ OG X s ρ lh w B' O' ∧ LG X s ρ lh w B' O' L l := by
  intro ms
  induction ms with
  | nil =>
    intro xs l B O k e rd hd hO hok
    cases xs with
    | nil => cases hd; exact ⟨[], B, O, rd, hok, fun _ h => h, Pre.refl O, hO, fun _ _ _ _ _ _ => .nil⟩
    | cons _ _ => exact hok.elim
  | cons m ms ih =>
    intro xs l B O k e rd hd hO hok
    cases xs with
    | nil => exact hok.elim
    | cons x xs =>
      cases hd with
      | @cons _ v _ l2 d1 d2 =>
        have rest : ∀ {x' : SV} {B1 : List Nat} {rd1 : List Nat}, (viewArgs ms xs B1 O fun L B O => k (x' :: L) B O).Ok s.blk e rd1 → (∀ id ∈ B, id ∈ B1) → VG X s ρ lh w B1 x' v →
            ∃ L B' O' rd', (k L B' O').Ok s.blk e rd' ∧ (∀ id ∈ B, id ∈ B') ∧ Pre O O' ∧ OG X s ρ lh w B' O' ∧ LG X s ρ lh w B' O' L (v :: l2) := fun {x' B1 rd1} hk hsub hv => by
          obtain ⟨L, B2, O2, rd2, h1, h2, h3, h4, h5⟩ := ih _ _ _ _ _ _ _ d2 (hO.sub hsub) hk
          exact ⟨x' :: L, B2, O2, rd2, h1, fun id h => h2 id (hsub id h), h3, h4, fun own' ρ0 lh0 ho ha hr => .cons (.im (hv own' ho (ha.sub h2))) (h5 own' ρ0 lh0 ho ha hr)⟩
        have owned : ∀ {id : Nat} {x' : SV} {g g' : List Seg} {B1 : List Nat} {rd1 : List Nat}, s.blk id = some g → (viewArgs ms xs B1 (O ++ [(id, g')]) fun L B O' => k (x' :: L) B O').Ok s.blk e rd1 → (∀ id ∈ B, id ∈ B1) →
            (∃ b sz l, ρ id = some (b, sz) ∧ l.length = sz ∧ (sz ≠ 0 → ∃ cs elem, w.heap[b]? = some (.cells cs elem (0, 0)) ∧ cs.toList = l) ∧ VGS X s ρ lh w B1 g' l) →
            (∀ (own' : Nat → Prop) (ρ0 : Rho) (lh0 : Lam), ρ0 O.length = ρ id → Den w own' ρ0 lh0 x' v) →
            ∃ L B' O' rd', (k L B' O').Ok s.blk e rd' ∧ (∀ id ∈ B, id ∈ B') ∧ Pre O O' ∧ OG X s ρ lh w B' O' ∧ LG X s ρ lh w B' O' L (v :: l2) := fun {id x' g g' B1 rd1} hg hk hsub hblk hden => by
          have hO1 : OG X s ρ lh w B1 (O ++ [(id, g')]) := fun j i g1 e1 => by
            by_cases hj : j < O.length
            · rw [List.getElem?_append_left hj] at e1
              exact (hO.sub hsub) j i g1 e1
            · rw [List.getElem?_append_right (by omega)] at e1
              have : j - O.length = 0 := by
                have := (List.getElem?_eq_some_iff.1 e1).1
                simp at this; omega
              rw [this] at e1
              simp only [List.getElem?_cons_zero, Option.some.injEq, Prod.mk.injEq] at e1
              obtain ⟨rfl, rfl⟩ := e1
              obtain ⟨b, sz, l, q1, q2, q3, q4⟩ := hblk
              exact ⟨g, b, sz, l, hg, q1, q2, q3, q4⟩
          obtain ⟨L, B2, O2, rd2, h1, h2, h3, h4, h5⟩ := ih _ _ _ _ _ _ _ d2 hO1 hk
          refine ⟨x' :: L, B2, O2, rd2, h1, fun id h => h2 id (hsub id h), fun j p hj => h3 j p (Pre.snoc O _ j p hj), h4, fun own' ρ0 lh0 ho ha hr => .cons (hden own' ρ0 lh0 ?_) (h5 own' ρ0 lh0 ho ha hr)⟩
          exact hr O.length id g' (h3 _ _ (by rw [List.getElem?_append_right (Nat.le_refl _)]; simp))
        cases m with
        | gen =>
          simp only [viewArgs] at hok
          obtain ⟨x', B1, rd1, h1, h2, h3⟩ := vw_ok 6 X G s ρ lh w hs _ _ _ _ _ _ d1 hok
          exact rest h1 h2 h3
        | bytes =>
          simp only [viewArgs] at hok
          obtain ⟨x', B1, rd1, h1, h2, h3⟩ := vw_ok 6 X G s ρ lh w hs _ _ _ _ _ _ d1 hok
          obtain ⟨x2, h4, h5⟩ := asBytes_ok h3 h1
          exact rest h4 h2 h5
        | rows =>
          simp only [viewArgs] at hok
          obtain ⟨x', B1, rd1, h1, h2, h3⟩ := vw_ok 6 X G s ρ lh w hs _ _ _ _ _ _ d1 hok
          obtain ⟨x2, h4, h5⟩ := asRows_ok h3 h1
          exact rest h4 h2 h5
        | own =>
          cases x <;> try exact hok.elim
          case ptr id b =>
            obtain ⟨g, rd', hg, _, hok⟩ := hok
            cases d1 with
            | im h0 => cases h0
            | @ptr _ _ bb sz hr =>
              obtain ⟨b', sz', e1, lb, hdb, hlb, hbb⟩ := hs.blk id g hg
              rw [hr] at e1; cases e1
              obtain ⟨g', B1, rd1, h1, h2, h3⟩ := vwS_ok (vw_ok 6) hs _ _ _ _ _ _ hdb hok
              exact owned hg h1 h2 ⟨bb, sz, lb, hr, hlb, hbb, h3⟩ fun own' ρ0 lh0 he => .ptr (by rw [he]; exact hr)
          case os id es n =>
            obtain ⟨g, rd', hg, _, hok⟩ := hok
            obtain ⟨b', sz', e1, lb, hdb, hlb, hbb⟩ := hs.blk id g hg
            obtain ⟨g', B1, rd1, h1, h2, h3⟩ := vwS_ok (vw_ok 6) hs _ _ _ _ _ _ hdb hok
            refine owned hg h1 h2 ⟨b', sz', lb, e1, hlb, hbb, h3⟩ fun own' ρ0 lh0 he => ?_
            cases d1 with
            | im h0 => cases h0
            | os hr hc hz => exact .os (by rw [he]; exact hr) hc hz
            | osn hr => exact .osn (by rw [he]; exact hr)
end
end Go.SE
/- Functions: results; the local state. -/
namespace Go.SE
open Go

def s0Of (ntmps : Nat) (L : List SV) (H : List (List Seg)) : St := { tmps := L ++ List.replicate (ntmps - L.length) (.tup []), heap := newAt 0 H, next := H.length, hs := [], nh := 0 }
def outSt (out : Out) (s' : St) : St := { tmps := [out.tv], heap := newAt 0 (out.own ++ out.new), next := out.own.length + out.new.length, hs := [], nh := s'.nh }
def resL (T : List TI) : List ResultVar → St → (List SV → VT) → VT
  | [], _, K => K []
  | .tmp t :: r, s, K => resL T r s fun l => K ((s.tmps[t]?).getD .any :: l)
  | .cell a t :: r, s, K => match (ty T t).k.known with
    | true => (loadT (ty T t) ((s.tmps[a]?).getD .any)).vt s.blk [] fun e _ => resL T r s fun l => K (e.v :: l)
    | false => .fail
def tupOf : List SV → SV
  | [x] => x
  | l => .tup l
def noY : YH := fun _ _ _ _ => .fail
/-- What is to be shown of a function. -/
def wpFn (E : Env) (fuel : Nat) (A : Ann) (code : Code) (ntmps : Nat) (rs : List ResultVar) (L : List SV) (H : List (List Seg)) (out : Out) : VT :=
  wpCode E fuel A noY H.length code (s0Of ntmps L H) fun e s' => match e with
    | .exit _ => .fail
    | _ => resL E.T rs s' fun l => wk H.length { s' with tmps := [tupOf l] } (outSt out s') (.ok True)

theorem look_newAt : ∀ (H : List (List Seg)) (n j : Nat), look (newAt n H) j = if n ≤ j then H[j - n]? else none := by
  intro H
  induction H with
  | nil => intro n j; simp [newAt, look]
  | cons g r ih =>
    intro n j
    simp only [newAt, look_cons, ih]
    by_cases h : n = j
    · subst h; simp
    · by_cases hlt : n ≤ j
      · rw [if_neg h, if_pos hlt, if_pos (by omega), show j - n = (j - (n + 1)) + 1 by omega, List.getElem?_cons_succ]
      · rw [if_neg h, if_neg hlt, if_neg (by omega)]
theorem noY_ok {P : Program} {X : Nat → Prop} {G : List (Nat × SV)} : YOKA P X G noY := fun _ _ _ _ _ _ _ _ _ _ _ _ _ _ h => h.elim

section
variable {P : Program} {X : Nat → Prop} {G : List (Nat × SV)} {st : Start} {s : St} {ρ : Rho} {lh : Lam} {a : Act} {w : World}

theorem tmp_den (hT : SatT X s ρ lh a w) (t : Nat) : Den w (Own X s ρ lh) ρ lh ((s.tmps[t]?).getD .any) (a.tmps.getD t undef) := by
  cases e : s.tmps[t]? with
  | none => exact .im (.any _)
  | some sv => exact hT.tmp t sv e
theorem loadT_ptr {ti : TI} {sv : SV} {h : Nat → Option (List Seg)} {e : Eff} {rd : List Nat} (hok : (loadT ti sv).Ok h e rd) : sv.isPtr = true := by
  cases sv <;> simp only [loadT] at hok <;> first | exact hok.elim | rfl

theorem load_val {T : List TI} {t : Nat} (hT : TabOK P T) (hk : (ty T t).k ≠ .other) (hs : SatH X G s ρ lh w) {sv : SV} {v : Value} (hv : Den w (Own X s ρ lh) ρ lh sv v) {e : Eff} {rd : List Nat}
    (hok : (loadT (ty T t) sv).Ok s.blk e rd) : ∃ v', (Instr.loadAt t v).run P w = .ok v' w ∧ Den w (Own X s ρ lh) ρ lh e.v v' := by
  cases sv <;> simp only [loadT] at hok <;> try exact hok.elim
  case ptr id base =>
    obtain ⟨g, rd', hg, _, hok⟩ := hok
    cases hv with
    | im h0 => cases h0
    | ptr hr =>
      have := load_rd1 hT hk (hs.lies hg hr) hok
      simp only [Nat.zero_add] at this
      obtain ⟨h1, h2, h3, _, v', hv', hd⟩ := this
      obtain ⟨ev, ed, es, en⟩ := e
      simp only at h1 h2 h3
      subst h1 h2 h3
      exact ⟨v', hv', hd⟩
  case ptri id base idx =>
    obtain ⟨g, rd', hg, _, hok⟩ := hok
    cases hv with
    | im h0 => cases h0
    | ptri hr =>
      have := load_rdi hT hk (hs.lies hg hr) hok
      simp only [Nat.zero_add] at this
      obtain ⟨h1, h2, h3, _, v', hv', hd⟩ := this
      obtain ⟨ev, ed, es, en⟩ := e
      simp only at h1 h2 h3
      subst h1 h2 h3
      exact ⟨v', hv', hd⟩
  case ip o base =>
    cases hv with
    | im h0 =>
      cases h0 with
      | ip hb ho hl hp =>
        obtain ⟨h1, h2, h3, _, v', hv', hd⟩ := load_rd1 (ρ := ρ) (lh := lh) hT hk (lies_ip hb hl hp) hok
        obtain ⟨ev, ed, es, en⟩ := e
        simp only at h1 h2 h3
        subst h1 h2 h3
        exact ⟨v', hv', hd⟩
  case ipi o base idx =>
    cases hv with
    | im h0 =>
      cases h0 with
      | ipi hb ho hl hp =>
        obtain ⟨h1, h2, h3, _, v', hv', hd⟩ := load_rdi (ρ := ρ) (lh := lh) hT hk (lies_ip hb hl hp) hok
        obtain ⟨ev, ed, es, en⟩ := e
        simp only at h1 h2 h3
        subst h1 h2 h3
        exact ⟨v', hv', hd⟩

def resF (tmps : Array Value) : ResultVar → Sem Value
  | .tmp t => pure (tmps.getD t undef)
  | .cell a t => do loadVar t (← asAddr (tmps.getD a undef))
theorem resL_ok {T : List TI} (hT : TabOK P T) (H : SatH X G s ρ lh w) (HT : SatT X s ρ lh a w) : ∀ (rs : List ResultVar) (K : List SV → VT), (resL T rs s K).holds →
    ∃ svs vs, (K svs).holds ∧ (rs.mapM (resF a.tmps)).run P w = .ok vs w ∧ DenL w (Own X s ρ lh) ρ lh svs vs := by
  intro rs
  induction rs with
  | nil => intro K h; exact ⟨[], [], h, by simp, .nil⟩
  | cons r rs ih =>
    intro K h
    cases r with
    | tmp t =>
      obtain ⟨svs, vs, h1, h2, h3⟩ := ih _ h
      refine ⟨_ :: svs, _ :: vs, h1, ?_, .cons (tmp_den HT t) h3⟩
      simp [List.mapM_cons, resF, h2]
    | cell c t =>
      simp only [resL] at h
      split at h
      case h_2 => exact h.elim
      rename_i hk
      obtain ⟨e, rd, hok, h⟩ := Tr.ok_of_vt h
      obtain ⟨svs, vs, h1, h2, h3⟩ := ih _ h
      have hd := tmp_den HT c
      have hp := loadT_ptr hok
      obtain ⟨v', hl, hdo⟩ := load_sound (fr := s.next) hT (TK.known_ne hk) H hd hok
      obtain ⟨ad, had⟩ := isPtr_den hd hp
      have hden : Den w (Own X s ρ lh) ρ lh e.v v' := by
        -- a load leaves the state as it is
        obtain ⟨v2, hl2, hd2⟩ := load_val hT (TK.known_ne hk) H hd hok
        rw [hl] at hl2; cases hl2
        exact hd2
      refine ⟨_ :: svs, _ :: vs, h1, ?_, .cons hden h3⟩
      rw [had] at hl
      simp only [Instr.loadAt, Instr.sureAddr, Sem.run_bind, Sem.run_pure, Result.andThen_ok] at hl
      have had' : a.tmps[c]?.getD undef = .pointer (some ad) := by rw [← Array.getD_eq_getD_getElem?]; exact had
      simp [List.mapM_cons, resF, had', asAddr, hl, h2]

theorem tupOf_den {own : Nat → Prop} {svs : List SV} {vs : List Value} (h : DenL w own ρ lh svs vs) : Den w own ρ lh (tupOf svs) (if h : vs.toArray.size = 1 then vs.toArray[0] else .tuple vs.toArray) := by
  cases h with
  | nil => exact .tup .nil
  | cons a b =>
    cases b with
    | nil => exact a
    | cons c d =>
      have : Den w own ρ lh (tupOf (_ :: _ :: _)) (.tuple _) := .tup (.cons a (.cons c d))
      simpa [tupOf] using this
theorem results_ok {fn : Func} {tmps : Array Value} {vs : List Value} (h : (fn.results.toList.mapM (resF tmps)).run P w = .ok vs w) :
    (Go.results fn tmps).run P w = .ok (if h : vs.toArray.size = 1 then vs.toArray[0] else .tuple vs.toArray) w := by
  have : Go.results fn tmps = (do let vs ← fn.results.mapM (resF tmps); pure (if h : vs.size = 1 then vs[0] else .tuple vs)) := rfl
  rw [this, Array.mapM_eq_mapM_toList]
  simp [h]
end

/-- The values of a local frame exist. -/
def Typed (L : List SV) (H : List (List Seg)) : Prop := ∃ (w : World) (own : Nat → Prop) (ρ : Rho) (l : List Value), DenL w own ρ (fun _ => none) L l ∧ ∀ g ∈ H, ∃ l, DenS0 w own g l

section
variable {P : Program} {X : Nat → Prop} {G : List (Nat × SV)} {s : St} {ρ : Rho} {lh : Lam} {w : World}

/-- The local names. -/
def rho0 (O : List (Nat × List Seg)) (ρ : Rho) : Rho := fun j => match O[j]? with
  | some p => ρ p.1
  | none => none
/-- What others own, seen from the callee. -/
def extX (X : Nat → Prop) (s : St) (ρ : Rho) (lh : Lam) (B : List Nat) (O : List (Nat × List Seg)) (b : Nat) : Prop :=
  Own X s ρ lh b ∧ (∀ p ∈ O, ∀ sz, ρ p.1 = some (b, sz) → sz = 0) ∧ ∀ id ∈ B, ∀ sz, ρ id = some (b, sz) → s.blk id ≠ none → sz = 0

theorem blk_s0 (n : Nat) (L : List SV) (O : List (Nat × List Seg)) (j : Nat) : (s0Of n L (O.map (·.2))).blk j = (O[j]?).map (·.2) := by
  show look (newAt 0 (O.map (·.2))) j = _
  rw [look_newAt]
  simp

theorem enter_ok (hs : SatH X G s ρ lh w) {B : List Nat} {O : List (Nat × List Seg)} (hids : okIds (O.map (·.1)) B = true) (hO : OG X s ρ lh w B O) {L : List SV} {l : List Value} (hL : LG X s ρ lh w B O L l) (n : Nat) :
    SatH (extX X s ρ lh B O) G (s0Of n L (O.map (·.2))) (rho0 O ρ) (fun _ => none) w ∧ DenL w (Own (extX X s ρ lh B O) (s0Of n L (O.map (·.2))) (rho0 O ρ) (fun _ => none)) (rho0 O ρ) (fun _ => none) L l ∧
      (∀ b, Own (extX X s ρ lh B O) (s0Of n L (O.map (·.2))) (rho0 O ρ) (fun _ => none) b → Own X s ρ lh b) ∧ (∀ b, Mine (s0Of n L (O.map (·.2))) (rho0 O ρ) (fun _ => none) b → Mine s ρ lh b ∧ ∃ id ∈ O.map (·.1), ∃ sz, ρ id = some (b, sz) ∧ sz ≠ 0 ∧ s.blk id ≠ none) ∧
      ∀ g ∈ O.map (·.2), ∃ l, DenS0 w (Own (extX X s ρ lh B O) (s0Of n L (O.map (·.2))) (rho0 O ρ) (fun _ => none)) g l := by
  obtain ⟨hnd, hdis⟩ := okIds_ok hids
  have up : ∀ {j g' b sz}, (s0Of n L (O.map (·.2))).blk j = some g' → rho0 O ρ j = some (b, sz) → ∃ id g, O[j]? = some (id, g') ∧ s.blk id = some g ∧ ρ id = some (b, sz) := fun {j g' b sz} e1 e2 => by
    rw [blk_s0] at e1
    cases ho : O[j]? with
    | none => rw [ho] at e1; cases e1
    | some p =>
      rw [ho] at e1
      obtain ⟨id, g1⟩ := p
      simp only [Option.map_some, Option.some.injEq] at e1
      subst e1
      unfold rho0 at e2
      rw [ho] at e2
      obtain ⟨g, _, _, _, h1, _⟩ := hO j id g1 ho
      exact ⟨id, g, rfl, h1, e2⟩
  have hmine : ∀ b, Mine (s0Of n L (O.map (·.2))) (rho0 O ρ) (fun _ => none) b → Mine s ρ lh b ∧ ∃ id ∈ O.map (·.1), ∃ sz, ρ id = some (b, sz) ∧ sz ≠ 0 ∧ s.blk id ≠ none := by
    rintro b (⟨j, g', sz, e1, e2, e3⟩ | ⟨L', h', e1, e2⟩)
    · obtain ⟨id, g, h1, h2, h3⟩ := up e1 e2
      exact ⟨.inl ⟨id, g, sz, h2, h3, e3⟩, id, List.mem_map.2 ⟨(id, g'), List.mem_of_getElem? h1, rfl⟩, sz, h3, e3, by rw [h2]; simp⟩
    · cases e2
  have hown : ∀ b, Own (extX X s ρ lh B O) (s0Of n L (O.map (·.2))) (rho0 O ρ) (fun _ => none) b → Own X s ρ lh b := fun b hb => hb.elim (fun h => h.1) (fun h => .inr (hmine b h).1)
  have havoid : Avoid s ρ B (Own (extX X s ρ lh B O) (s0Of n L (O.map (·.2))) (rho0 O ρ) (fun _ => none)) := fun id hid g b sz hg hr hz hb => by
    rcases hb with hb | hb
    · exact hz (hb.2.2 id hid sz hr (by rw [hg]; simp))
    · obtain ⟨_, id', hid', sz', hr', hz', hn'⟩ := hmine b hb
      cases hg' : s.blk id' with
      | none => exact hn' hg'
      | some g' =>
        have := hs.inj id' id g' g b sz' sz hg' hg hr' hr hz' hz
        subst this
        exact hdis _ hid' hid
  have hr0 : ∀ (j id : Nat) (g' : List Seg), O[j]? = some (id, g') → rho0 O ρ j = ρ id := fun j id g' e => by unfold rho0; rw [e]
  have hg0 : ∀ g ∈ O.map (·.2), ∃ l, DenS0 w (Own (extX X s ρ lh B O) (s0Of n L (O.map (·.2))) (rho0 O ρ) (fun _ => none)) g l := fun g hg => by
    obtain ⟨p, hp, rfl⟩ := List.mem_map.1 hg
    obtain ⟨j, hj⟩ := List.getElem?_of_mem hp
    obtain ⟨g, b, sz, lb, h1, h2, h3, h4, h5⟩ := hO j p.1 p.2 hj
    exact ⟨lb, h5 _ hown havoid⟩
  refine ⟨?_, hL _ _ _ hown havoid hr0, hown, hmine, hg0⟩
  exact
  { blk := fun j g' e => by
      rw [blk_s0] at e
      cases ho : O[j]? with
      | none => rw [ho] at e; cases e
      | some p =>
        rw [ho] at e
        obtain ⟨id, g1⟩ := p
        simp only [Option.map_some, Option.some.injEq] at e
        subst e
        obtain ⟨g, b, sz, lb, h1, h2, h3, h4, h5⟩ := hO j id g1 ho
        exact ⟨b, sz, by rw [hr0 j id g1 ho]; exact h2, lb, (h5 _ hown havoid).full, h3, h4⟩
    inj := fun j j' g g' b sz sz' e1 e2 e3 e4 e5 e6 => by
      obtain ⟨id, g1, h1, h2, h3⟩ := up e1 e3
      obtain ⟨id', g1', h1', h2', h3'⟩ := up e2 e4
      have := hs.inj id id' g1 g1' b sz sz' h2 h2' h3 h3' e5 e6
      subst this
      have k1 : (O.map (·.1))[j]? = some id := by rw [List.getElem?_map, h1]; rfl
      have k2 : (O.map (·.1))[j']? = some id := by rw [List.getElem?_map, h1']; rfl
      obtain ⟨q1, q2⟩ := List.getElem?_eq_some_iff.1 k1
      obtain ⟨q3, q4⟩ := List.getElem?_eq_some_iff.1 k2
      exact (List.getElem_inj hnd).1 (q2.trans q4.symm)
    foreign := fun b hb hx => by
      obtain ⟨_, id, hid, sz, hr, hz, _⟩ := hmine b hb
      obtain ⟨p, hp, rfl⟩ := List.mem_map.1 hid
      exact hz (hx.2.1 p hp sz hr)
    nxt := fun j r e => by
      unfold rho0 at e
      cases ho : O[j]? with
      | none => rw [ho] at e; cases e
      | some p =>
        have := (List.getElem?_eq_some_iff.1 ho).1
        show j < (O.map (·.2)).length
        simpa using this
    hd := fun L' h e => by cases e
    hinj := fun L' L'' h h' l e => by cases e
    hnxt := fun L' l e => by cases e
    glob := fun g sv hg => (hs.glob g sv hg).stab (Stab.of_sub hown)
    xlt := fun b hb => by
      rcases hb.1 with hx | hx
      · exact hs.xlt b hx
      · rcases hx with ⟨i, segs, sz, q1, q2, q3⟩ | ⟨L', x, q1, q2⟩
        · obtain ⟨cs, elem, q4, _⟩ := hs.row q1 q2 q3
          exact lt_of_heap q4
        · obtain ⟨l', r', q3, q4, _⟩ := hs.hd L' x q1
          rw [q2] at q3; cases q3
          exact lt_of_heap q4 }
end
end Go.SE
/- Functions: a call's effect out of the function's obligation. -/
namespace Go.SE
open Go

theorem setAct_newAt (id : Nat) : ∀ (l : List (List Seg)) (fr : Nat), setAct id (newAt fr l) = if fr ≤ id then (l[id - fr]?).map some else none := by
  intro l
  induction l with
  | nil => intro fr; simp [newAt, setAct]
  | cons g r ih =>
    intro fr
    simp only [newAt, setAct, ih]
    by_cases h : id = fr
    · subst h
      simp only [Nat.le_refl, if_true, Nat.sub_self, List.getElem?_cons_zero, Option.map_some]
      rw [if_neg (by omega)]
    · by_cases hlt : fr ≤ id
      · rw [if_pos hlt, if_pos (by omega), show id - fr = (id - (fr + 1)) + 1 by omega, List.getElem?_cons_succ]
        cases r[id - (fr + 1)]? <;> simp [h]
      · rw [if_neg hlt, if_neg (by omega)]
        simp [h]
theorem setAct_zip (id : Nat) : ∀ (ks : List Nat) (gs : List (List Seg)), ks.Nodup → gs.length = ks.length → (∀ (j : Nat) (g : List Seg), ks[j]? = some id → gs[j]? = some g → setAct id (zipIds ks gs) = some (some g)) ∧ (id ∉ ks → setAct id (zipIds ks gs) = none) := by
  intro ks
  induction ks with
  | nil => intro gs _ _; exact ⟨fun j g h => by simp at h, fun _ => by simp [zipIds, setAct]⟩
  | cons k r ih =>
    intro gs hn hl
    cases gs with
    | nil => simp at hl
    | cons g0 gs =>
      rw [List.nodup_cons] at hn
      obtain ⟨i1, i2⟩ := ih gs hn.2 (by simpa using hl)
      constructor
      · intro j g hj hg
        simp only [zipIds, setAct]
        cases j with
        | zero =>
          simp only [List.getElem?_cons_zero, Option.some.injEq] at hj hg
          subst hj hg
          rw [i2 hn.1]; simp
        | succ j => rw [i1 j g (by simpa using hj) (by simpa using hg)]
      · intro hni
        simp only [List.mem_cons, not_or] at hni
        simp only [zipIds, setAct]
        rw [i2 hni.2]; simp [hni.1]

section
variable {P : Program} {X : Nat → Prop} {G : List (Nat × SV)} {s : St} {ρ : Rho} {lh : Lam} {w : World}

/-- The blocks behind a call: a new one, an own one, or one that the call has nothing to do with. -/
theorem blk_effOf {fr : Nat} {κ B : List Nat} {frz : Bool} {out : Out} (hn : κ.Nodup) (hl : out.own.length = κ.length) {id : Nat} {segs : List Seg} (h : (s.eff (effOf fr κ B frz out) fr).blk id = some segs) :
    (∃ g, fr ≤ id ∧ out.new[id - fr]? = some g ∧ segs = renS (ren 6 (renId κ fr)) g) ∨ (¬ (fr ≤ id ∧ id < fr + out.new.length) ∧ ∃ (j : Nat) (g : List Seg), κ[j]? = some id ∧ out.own[j]? = some g ∧ segs = renS (ren 6 (renId κ fr)) g) ∨
      (¬ (fr ≤ id ∧ id < fr + out.new.length) ∧ id ∉ κ ∧ s.blk id = some segs ∧ (frz = true → id ∉ B)) := by
  rw [blk_eff] at h
  simp only [Eff.act, effOf, setAct_newAt] at h
  by_cases hr : fr ≤ id ∧ id < fr + out.new.length
  · left
    have hlt : id - fr < out.new.length := by omega
    rw [if_pos hr.1] at h
    rw [List.getElem?_map, List.getElem?_eq_getElem hlt] at h
    simp only [Option.map_some, Option.getD_some, Option.some.injEq] at h
    exact ⟨_, hr.1, List.getElem?_eq_getElem hlt, h.symm⟩
  · have h0 : (if fr ≤ id then ((out.new.map (renS (ren 6 (renId κ fr))))[id - fr]?).map some else none) = (none : Option (Option (List Seg))) := by
      split
      · rw [List.getElem?_eq_none (by simp; omega)]; rfl
      · rfl
    rw [h0] at h
    dsimp only at h
    obtain ⟨z1, z2⟩ := setAct_zip id κ (out.own.map (renS (ren 6 (renId κ fr)))) hn (by simpa using hl)
    by_cases hk : id ∈ κ
    · right; left
      obtain ⟨j, hj⟩ := List.getElem?_of_mem hk
      have hlt : j < out.own.length := by rw [hl]; exact (List.getElem?_eq_some_iff.1 hj).1
      rw [z1 j (renS (ren 6 (renId κ fr)) out.own[j]) hj (by rw [List.getElem?_map, List.getElem?_eq_getElem hlt]; rfl)] at h
      simp only [Option.getD_some, Option.some.injEq] at h
      exact ⟨hr, j, _, hj, List.getElem?_eq_getElem hlt, h.symm⟩
    · right; right
      rw [z2 hk] at h
      dsimp only at h
      have hda : ∀ l : List Nat, (dropAct id l).getD (s.blk id) = some segs → s.blk id = some segs ∧ id ∉ l := by
        intro l
        induction l with
        | nil => intro h; exact ⟨h, by simp⟩
        | cons k r ih =>
          intro h
          simp only [dropAct] at h
          cases hd : dropAct id r with
          | some x =>
            rw [hd] at h
            have hx : x = none := by
              have : ∀ (r : List Nat) (x), dropAct id r = some x → x = none := by
                intro r
                induction r with
                | nil => intro x h; cases h
                | cons k r ih =>
                  intro x h
                  simp only [dropAct] at h
                  cases hd : dropAct id r with
                  | some y => rw [hd] at h; cases h; exact ih _ hd
                  | none =>
                    rw [hd] at h
                    by_cases hk : id = k
                    · simp [hk] at h; exact h.symm
                    · simp [hk] at h
              exact this r x hd
            rw [hx] at h
            cases h
          | none =>
            rw [hd] at h
            by_cases hk : id = k
            · simp [hk] at h
            · simp only [hk, if_false] at h
              have h' : s.blk id = some segs := h
              have := ih (by rw [hd]; exact h')
              exact ⟨h', by simp [hk, this.2]⟩
      cases frz with
      | true => obtain ⟨q1, q2⟩ := hda B h; exact ⟨hr, hk, q1, fun _ => q2⟩
      | false => exact ⟨hr, hk, h, fun hf => by cases hf⟩

/-- What the caller finds behind the call. -/
theorem leave_ok (hs : SatH X G s ρ lh w) {fr : Nat} (hf : Free s ρ fr) {B : List Nat} {O : List (Nat × List Seg)} (hids : okIds (O.map (·.1)) B = true) (hO : OG X s ρ lh w B O) {frz : Bool} {out : Out} (hol : out.own.length = O.length) (hnl : out.new.length ≤ 8)
    (hpure : frz = true ∨ B = [] ∨ pureOut out = true) {w'' : World} {ρt : Rho} {lh' : Lam} {t : St} (htb : ∀ j, t.blk j = (out.own ++ out.new)[j]?) (htn : t.next = out.own.length + out.new.length)
    (HT : SatH (extX X s ρ lh B O) G t ρt lh' w'') {v : Value} (hv : Den w'' (Own (extX X s ρ lh B O) t ρt lh') ρt lh' out.tv v)
    {mine0 : Nat → Prop} (hmine0 : ∀ b, mine0 b → Mine s ρ lh b ∧ ∃ id ∈ O.map (·.1), ∃ sz, ρ id = some (b, sz) ∧ sz ≠ 0 ∧ s.blk id ≠ none)
    (hmute : Mute w w'') (hsize : w.heap.size ≤ w''.heap.size) (hkeep : ∀ b o, w.heap[b]? = some o → ¬ mine0 b → w''.heap[b]? = some o) (hminet : ∀ b, Mine t ρt lh' b → mine0 b ∨ w.heap.size ≤ b) (hlow : ∀ j, j < O.length → ρt j = rho0 O ρ j) :
    Does X G s ρ lh w (effOf fr (O.map (·.1)) B frz out) fr v w'' := by
  obtain ⟨hnd, hdis⟩ := okIds_ok hids
  let κ := O.map (·.1)
  let sC := s.eff (effOf fr κ B frz out) fr
  let ρC : Rho := fun id => if fr ≤ id ∧ id < fr + out.new.length then ρt (O.length + (id - fr)) else ρ id
  have ρC_in : ∀ id, fr ≤ id ∧ id < fr + out.new.length → ρC id = ρt (O.length + (id - fr)) := fun id h => if_pos h
  have ρC_out : ∀ id, ¬ (fr ≤ id ∧ id < fr + out.new.length) → ρC id = ρ id := fun id h => if_neg h
  have free : ∀ id, fr ≤ id ∧ id < fr + out.new.length → ρ id = none := fun id h => hf.2 id h.1 (by omega)
  have ρle : Le ρ ρC := fun id r e => by
    rw [ρC_out id (fun h => by rw [free id h] at e; cases e)]; exact e
  have κget : ∀ (j id : Nat), κ[j]? = some id → ∃ g', O[j]? = some (id, g') := fun j id e => by
    have e : (O.map (·.1))[j]? = some id := e
    rw [List.getElem?_map] at e
    cases ho : O[j]? with
    | none => rw [ho] at e; cases e
    | some p => rw [ho] at e; obtain ⟨a, b⟩ := p; simp at e; subst e; exact ⟨b, rfl⟩
  have κlow : ∀ (j id : Nat), κ[j]? = some id → ρt j = ρ id ∧ (∃ g, s.blk id = some g) ∧ ¬ (fr ≤ id ∧ id < fr + out.new.length) := fun j id e => by
    obtain ⟨g', ho⟩ := κget j id e
    obtain ⟨g, b, sz, l, h1, h2, _⟩ := hO j id g' ho
    refine ⟨?_, ⟨g, h1⟩, fun h => by rw [free id h] at h2; cases h2⟩
    rw [hlow j (List.getElem?_eq_some_iff.1 ho).1]
    unfold rho0
    rw [ho]
  have hσ : ∀ id r, ρt id = some r → ρC (renId κ fr id) = some r := fun id r e => by
    have hlt := HT.nxt id r e
    unfold renId
    cases hk : κ[id]? with
    | some c =>
      obtain ⟨h1, _, h3⟩ := κlow id c hk
      show ρC c = some r
      rw [ρC_out c h3, ← h1]; exact e
    | none =>
      have hge : O.length ≤ id := by
        have := List.getElem?_eq_none_iff.1 hk
        simpa [κ] using this
      have hκl : κ.length = O.length := by simp [κ]
      show ρC (fr + (id - κ.length)) = some r
      rw [hκl, ρC_in _ ⟨by omega, by omega⟩, show O.length + (fr + (id - O.length) - fr) = id by omega]
      exact e
  -- the three kinds of blocks
  have kind : ∀ {id segs}, sC.blk id = some segs → (∃ j g, t.blk j = some g ∧ ρC id = ρt j ∧ renId κ fr j = id ∧ segs = renS (ren 6 (renId κ fr)) g) ∨
      (ρC id = ρ id ∧ id ∉ κ ∧ s.blk id = some segs ∧ (frz = true → id ∉ B)) := fun {id segs} h => by
    rcases blk_effOf (κ := κ) hnd (by rw [hol]; simp [κ]) h with ⟨g, h1, h2, h3⟩ | ⟨h1, j, g, h2, h3, h4⟩ | ⟨h1, h2, h3, h4⟩
    · left
      have hlt := (List.getElem?_eq_some_iff.1 h2).1
      refine ⟨O.length + (id - fr), g, ?_, ρC_in id ⟨h1, by omega⟩, ?_, h3⟩
      · rw [htb, List.getElem?_append_right (by omega), hol, show O.length + (id - fr) - O.length = id - fr by omega]; exact h2
      · unfold renId
        rw [List.getElem?_eq_none (by simp [κ])]
        simp [κ]; omega
    · left
      have hlt := (List.getElem?_eq_some_iff.1 h3).1
      refine ⟨j, g, ?_, ?_, ?_, h4⟩
      · rw [htb, List.getElem?_append_left hlt]; exact h3
      · rw [ρC_out id h1]; exact ((κlow j id h2).1).symm
      · unfold renId; rw [h2]
    · exact .inr ⟨ρC_out id h1, h2, h3, h4⟩
  have hdC : ∀ L, sC.hd L = s.hd L := fun L => by simp [sC]
  have hnextC : sC.next = s.next := by simp [sC]
  have hnhC : sC.nh = s.nh := by simp [sC]
  have tmine : ∀ {j g b sz}, t.blk j = some g → ρt j = some (b, sz) → sz ≠ 0 → Mine t ρt lh' b := fun h1 h2 h3 => .inl ⟨_, _, _, h1, h2, h3⟩
  have cellsOf : ∀ {id g b sz}, s.blk id = some g → ρ id = some (b, sz) → sz ≠ 0 → ∃ cs elem, w.heap[b]? = some (.cells cs elem (0, 0)) := fun h1 h2 h3 => let ⟨cs, elem, h, _⟩ := hs.row h1 h2 h3; ⟨cs, elem, h⟩
  -- what is not touched is not the callee's
  have notmine0 : ∀ {id g b sz}, s.blk id = some g → ρ id = some (b, sz) → sz ≠ 0 → id ∉ κ → ¬ mine0 b := fun {id g b sz} h1 h2 h3 h4 hm => by
    obtain ⟨_, id', hid', sz', q1, q2, q3⟩ := hmine0 b hm
    cases hg' : s.blk id' with
    | none => exact q3 hg'
    | some g' =>
      have := hs.inj id' id g' g b sz' sz hg' h1 q1 h2 q2 h3
      subst this
      exact h4 hid'
  have notmine0L : ∀ {L h l}, s.hd L = some h → lh L = some l → ¬ mine0 l := fun {L h l} h1 h2 hm => by
    obtain ⟨_, id', hid', sz', q1, q2, q3⟩ := hmine0 l hm
    cases hg' : s.blk id' with
    | none => exact q3 hg'
    | some g' =>
      obtain ⟨cs, elem, q4⟩ := cellsOf hg' q1 q2
      obtain ⟨l', r', z1, z2, _⟩ := hs.hd L h h1
      rw [h2] at z1; cases z1
      rw [q4] at z2; cases z2
  have mineC : ∀ b, Mine sC ρC lh b → (Mine t ρt lh' b) ∨ (∃ id g sz, s.blk id = some g ∧ ρ id = some (b, sz) ∧ sz ≠ 0 ∧ id ∉ κ ∧ (frz = true → id ∉ B)) ∨ ∃ L h, s.hd L = some h ∧ lh L = some b := fun b hb => by
    rcases hb with ⟨id, segs, sz, h1, h2, h3⟩ | ⟨L, h, h1, h2⟩
    · rcases kind h1 with ⟨j, g, k1, k2, k3, k4⟩ | ⟨k1, k2, k3, k4⟩
      · rw [k2] at h2; exact .inl (tmine k1 h2 h3)
      · rw [k1] at h2; exact .inr (.inl ⟨id, segs, sz, k3, h2, h3, k2, k4⟩)
    · rw [hdC] at h1; exact .inr (.inr ⟨L, h, h1, h2⟩)
  have mineS : ∀ b, Mine sC ρC lh b → Mine s ρ lh b ∨ w.heap.size ≤ b := fun b hb => by
    rcases mineC b hb with h | ⟨id, g, sz, h1, h2, h3, _⟩ | ⟨L, h, h1, h2⟩
    · exact (hminet b h).imp (fun h => (hmine0 b h).1) (fun h => h)
    · exact .inl (.inl ⟨id, g, sz, h1, h2, h3⟩)
    · exact .inl (.inr ⟨L, h, h1, h2⟩)
  have hX0 : ∀ b, X b → extX X s ρ lh B O b := fun b hb => by
    refine ⟨.inl hb, fun p hp sz e => ?_, fun id hid sz e hn => ?_⟩
    · obtain ⟨j, hj⟩ := List.getElem?_of_mem hp
      obtain ⟨g, b', sz', l, h1, h2, _⟩ := hO j p.1 p.2 hj
      rcases Nat.eq_zero_or_pos sz with h | h
      · exact h
      · exact absurd hb (hs.foreign b (.inl ⟨p.1, g, sz, h1, e, by omega⟩))
    · cases hg : s.blk id with
      | none => exact absurd hg hn
      | some g =>
        rcases Nat.eq_zero_or_pos sz with h | h
        · exact h
        · exact absurd hb (hs.foreign b (.inl ⟨id, g, sz, hg, e, by omega⟩))
  have hsub : (frz = true ∨ B = []) → ∀ b, Own X sC ρC lh b → Own (extX X s ρ lh B O) t ρt lh' b := fun hfb b hb => by
    rcases hb with hb | hb
    · exact .inl (hX0 b hb)
    · rcases mineC b hb with h | ⟨id, g, sz, h1, h2, h3, h4, h5⟩ | ⟨L, h, h1, h2⟩
      · exact .inr h
      · refine .inl ⟨.inr (.inl ⟨id, g, sz, h1, h2, h3⟩), fun p hp sz' e => ?_, fun id' hid' sz' e hn => ?_⟩
        · obtain ⟨j, hj⟩ := List.getElem?_of_mem hp
          obtain ⟨g', b', sz2, l, q1, q2, _⟩ := hO j p.1 p.2 hj
          rcases Nat.eq_zero_or_pos sz' with h | h
          · exact h
          · have := hs.inj p.1 id g' g b sz' sz q1 h1 e h2 (by omega) h3
            exact absurd (List.mem_map.2 ⟨p, hp, this⟩) h4
        · cases hg' : s.blk id' with
          | none => exact absurd hg' hn
          | some g' =>
            rcases Nat.eq_zero_or_pos sz' with h | h
            · exact h
            · have := hs.inj id' id g' g b sz' sz hg' h1 e h2 (by omega) h3
              subst this
              rcases hfb with hfb | hfb
              · exact absurd hid' (h5 hfb)
              · rw [hfb] at hid'; cases hid'
      · obtain ⟨l', r', z1, z2, _⟩ := hs.hd L h h1
        rw [h2] at z1; cases z1
        refine .inl ⟨.inr (.inr ⟨L, h, h1, h2⟩), fun p hp sz' e => ?_, fun id' hid' sz' e hn => ?_⟩
        · obtain ⟨j, hj⟩ := List.getElem?_of_mem hp
          obtain ⟨g', b', sz2, l, q1, q2, _⟩ := hO j p.1 p.2 hj
          rcases Nat.eq_zero_or_pos sz' with h | h
          · exact h
          · obtain ⟨cs, elem, q4⟩ := cellsOf q1 e (by omega)
            rw [q4] at z2; cases z2
        · cases hg' : s.blk id' with
          | none => exact absurd hg' hn
          | some g' =>
            rcases Nat.eq_zero_or_pos sz' with h | h
            · exact h
            · obtain ⟨cs, elem, q4⟩ := cellsOf hg' e (by omega)
              rw [q4] at z2; cases z2
  have hcond : (∀ b, Own X sC ρC lh b → Own (extX X s ρ lh B O) t ρt lh' b) ∨ pureOut out = true := by
    rcases hpure with h | h | h
    · exact .inl (hsub (.inl h))
    · exact .inl (hsub (.inr h))
    · exact .inr h
  have hst : Stab w (Own X s ρ lh) w'' (Own X sC ρC lh) := fun b o hb hn => by
    refine ⟨hkeep b o hb fun hm => hn (.inr (hmine0 b hm).1), fun hc => ?_⟩
    rcases hc with hc | hc
    · exact hn (.inl hc)
    · rcases mineS b hc with h | h
      · exact hn (.inr h)
      · have := lt_of_heap hb; omega
  have tden : ∀ {j g l}, t.blk j = some g → DenS w'' (Own (extX X s ρ lh B O) t ρt lh') ρt lh' g l → DenS w'' (Own X sC ρC lh) ρC lh (renS (ren 6 (renId κ fr)) g) l := fun {j g l} hj hd => by
    refine renS_den (fun x v hc hd => ren_den hσ 6 x v hc hd) g l (hcond.imp (fun h => h) fun h => ?_) hd
    have hp : ∀ g ∈ out.own ++ out.new, pureS (pureV 6) g = true := by
      unfold pureOut at h
      simp only [Bool.and_eq_true, List.all_eq_true] at h
      intro g hg
      rcases List.mem_append.1 hg with hg | hg
      · exact h.2.1 g hg
      · exact h.2.2 g hg
    rw [htb] at hj
    exact hp g (List.mem_of_getElem? hj)
  refine ⟨ρC, ?_, ?_, ?_, ?_⟩
  · show SatH X G sC ρC lh w''
    exact
    { blk := fun id segs e => by
        rcases kind e with ⟨j, g, k1, k2, k3, rfl⟩ | ⟨k1, k2, k3, k4⟩
        · obtain ⟨b, sz, q1, l, q2, q3, q4⟩ := HT.blk j g k1
          exact ⟨b, sz, by rw [k2]; exact q1, l, tden k1 q2, q3, q4⟩
        · obtain ⟨b, sz, q1, l, q2, q3, q4⟩ := hs.blk id segs k3
          refine ⟨b, sz, by rw [k1]; exact q1, l, q2.stab hst ρle (Le.refl _), q3, fun h0 => ?_⟩
          obtain ⟨cs, elem, q5, q6⟩ := q4 h0
          exact ⟨cs, elem, hkeep b _ q5 (notmine0 k3 q1 h0 k2), q6⟩
      inj := fun id id' segs segs' b sz sz' e e' h1 h2 h3 h4 => by
        have mix : ∀ {id id' segs segs' sz sz'}, (∃ j g, t.blk j = some g ∧ ρC id = ρt j ∧ renId κ fr j = id ∧ segs = renS (ren 6 (renId κ fr)) g) → (ρC id' = ρ id' ∧ id' ∉ κ ∧ s.blk id' = some segs' ∧ (frz = true → id' ∉ B)) →
            ρC id = some (b, sz) → ρC id' = some (b, sz') → sz ≠ 0 → sz' ≠ 0 → False := fun ⟨j, g, k1, k2, k3, _⟩ ⟨q1, q2, q3, _⟩ h1 h2 h3 h4 => by
          rw [k2] at h1
          rw [q1] at h2
          obtain ⟨cs, elem, hc⟩ := cellsOf q3 h2 h4
          rcases hminet b (tmine k1 h1 h3) with hm | hm
          · exact notmine0 q3 h2 h4 q2 hm
          · have := lt_of_heap hc; omega
        rcases kind e with hk | hk <;> rcases kind e' with hk' | hk'
        · obtain ⟨j, g, k1, k2, k3, _⟩ := hk
          obtain ⟨j', g', k1', k2', k3', _⟩ := hk'
          rw [k2] at h1
          rw [k2'] at h2
          have := HT.inj j j' g g' b sz sz' k1 k1' h1 h2 h3 h4
          subst this
          rw [← k3, ← k3']
        · exact (mix hk hk' h1 h2 h3 h4).elim
        · exact (mix hk' hk h2 h1 h4 h3).elim
        · rw [hk.1] at h1
          rw [hk'.1] at h2
          exact hs.inj id id' segs segs' b sz sz' hk.2.2.1 hk'.2.2.1 h1 h2 h3 h4
      foreign := fun b hb hx => by
        rcases mineC b hb with h | ⟨id, g, sz, h1, h2, h3, _⟩ | ⟨L, h, h1, h2⟩
        · exact HT.foreign b h (hX0 b hx)
        · exact hs.foreign b (.inl ⟨id, g, sz, h1, h2, h3⟩) hx
        · exact hs.foreign b (.inr ⟨L, h, h1, h2⟩) hx
      nxt := fun id r e => by
        rw [hnextC]
        by_cases h : fr ≤ id ∧ id < fr + out.new.length
        · have := hf.1; omega
        · rw [ρC_out id h] at e; exact hs.nxt id r e
      hd := fun L h e => by
        rw [hdC] at e
        exact (hs.hd L h e).stab hst ρle (Le.refl _) fun l hl o ho => hkeep l o ho (notmine0L e hl)
      hinj := fun L L' h h' l e e' => hs.hinj L L' h h' l (by rw [← hdC]; exact e) (by rw [← hdC]; exact e')
      hnxt := fun L l e => by rw [hnhC]; exact hs.hnxt L l e
      glob := fun g sv hg => (hs.glob g sv hg).stab hst
      xlt := fun b hb => Nat.lt_of_lt_of_le (hs.xlt b hb) hsize }
  · show Den w'' (Own X sC ρC lh) ρC lh (ren 6 (renId κ fr) out.tv) v
    refine ren_den hσ 6 out.tv v (hcond.imp (fun h => h) fun h => ?_) hv
    unfold pureOut at h
    simp only [Bool.and_eq_true] at h
    exact h.1
  · show Goes s.next s.nh s sC ρ ρC lh lh w w''
    exact ⟨hsize, fun b o hb hn => hkeep b o hb fun hm => hn (hmine0 b hm).1, mineS, fun id _ r e => ρle id r e, fun _ _ _ e => e, hmute⟩
  · intro id hid
    by_cases h : fr ≤ id ∧ id < fr + out.new.length
    · exact .inr ⟨h.1, by have := h.2; omega⟩
    · change ρC id ≠ none at hid
      rw [ρC_out id h] at hid; exact .inl hid
end
end Go.SE
/- A function meets its specification, out of its obligation. -/
namespace Go.SE
open Go
section
variable {P : Program} {E : Env}

theorem callOK_of (hE : EnvOK P E) {f : Nat} {fn : Func} {code : Code} (hfn : P.funcs[f]? = some fn) (hb : fn.body = some code) (hname : (fn.name == "runtime.NumGoroutine") = false) {frz : Bool} {modes : List Mode} {post : List SV → List (List Seg) → FPost} 
    (hbody : ∀ L H out, Typed L H → (post L H).Ok out → ∃ (A : Ann) (fuel : Nat), (wpFn E fuel A code fn.ntmps fn.results.toList L H out).holds) : CallOK P E.G f (specOf frz modes post) := by
  refine ⟨⟨fn, code, hfn, hb, hname⟩, fun X s ρ lh w fr args vs e rd hs hf hd hok => ?_⟩
  unfold specOf at hok
  obtain ⟨L, B, O, rd', hok, _, _, hO, hL⟩ := viewArgs_ok hs modes args vs [] [] _ e rd hd (fun j id g' e => by simp at e) hok
  split at hok
  case h_2 => exact hok.elim
  rename_i hids
  obtain ⟨out, hpost, hok⟩ := FPost.tr_ok hok
  split at hok
  case h_2 => exact hok.elim
  rename_i hchk
  obtain ⟨rfl, rfl⟩ := hok
  simp only [Bool.and_eq_true, decide_eq_true_eq, Bool.or_eq_true] at hchk
  obtain ⟨hol, hnl, hpure⟩ := hchk
  have hpure' : frz = true ∨ B = [] ∨ pureOut out = true := hpure.imp (fun h => h) fun h => h.imp (fun h => by cases B with | nil => rfl | cons _ _ => cases h) (fun h => h)
  obtain ⟨H0, dL, hown, hmine, hcont⟩ := enter_ok hs hids hO hL fn.ntmps
  obtain ⟨A, fuel, hw⟩ := hbody L (O.map (·.2)) out ⟨w, _, _, vs, dL, hcont⟩ hpost
  unfold wpFn at hw
  have hlen : (O.map (·.2)).length = O.length := by simp
  -- the local frame
  have hT := entry_T H0 dL fn.ntmps
  have hr0 : Reach (extX X s ρ lh B O) E.G ((s0Of fn.ntmps L (O.map (·.2))).start (rho0 O ρ) (fun _ => none) w) (s0Of fn.ntmps L (O.map (·.2))) (rho0 O ρ) (fun _ => none) { tmps := vs.toArray ++ Array.replicate (fn.ntmps - vs.toArray.size) undef, defers := [] } w :=
    ⟨⟨H0, hT⟩, Ev.refl _ _ _ _ _ _, Nat.le_refl _, Nat.le_refl _, rfl, by simp⟩
  refine callsIn_of_wp_marks hfn hb trivial (wpCode_sound hE fuel A noY (O.map (·.2)).length code _ _ hw _ _ _ _ _ hr0 (Nat.le_refl _) noY_ok Fence.wide 0 _ ⟨fun _ => trivial, rfl, rfl⟩ (.inl rfl) ?_)
  intro e s' ρ' lh' a' w' hk hr'
  have hk' : (resL E.T fn.results.toList s' fun l => wk (O.map (·.2)).length { s' with tmps := [tupOf l] } (outSt out s') (.ok True)).holds ∧ (e = .normal ∨ e = .ret) := by
    cases e with
    | exit id => exact hk.elim
    | normal => exact ⟨hk, .inl rfl⟩
    | ret => exact ⟨hk, .inr rfl⟩
  obtain ⟨hk, he⟩ := hk'
  obtain ⟨ms, m1, m2, m3, m4⟩ := hr'.marks
  have goal : LeavesInM Fence.wide 0 P fn a'.tmps (fun
      | .returned v, w' => Does X E.G s ρ lh w (effOf fr (O.map (·.1)) B frz out) fr v w'
      | _, _ => False) a'.defers .returning w' := by
    rw [m1]
    obtain ⟨i1, i2⟩ := hr'.sat.H.shutAll ms m2 (fun q hq => (m3 q hq).1)
    have T2 : SatT (extX X s ρ lh B O) s' ρ' lh' { tmps := a'.tmps, defers := [] } (shutAll w' ms) :=
      ⟨hr'.sat.T.size, fun t sv e => (hr'.sat.T.tmp t sv e).stabC i2 (Le.refl _) (Le.refl _), [], rfl, List.nodup_nil, by simp⟩
    obtain ⟨svs, vals, k1, k2, k3⟩ := resL_ok (P := P) hE.T i1 T2 _ _ hk
    have hres := results_ok (P := P) (fn := fn) k2
    refine leaves_marks ms w' m2 (fun q hq => (m3 q hq).1) ⟨_, hres, ?_⟩
    have hv := tupOf_den k3
    generalize (if h : vals.toArray.size = 1 then vals.toArray[0] else Value.tuple vals.toArray) = v at hv
    have hr2 : Reach (extX X s ρ lh B O) E.G ((s0Of fn.ntmps L (O.map (·.2))).start (rho0 O ρ) (fun _ => none) w) { s' with tmps := [tupOf svs] } ρ' lh' { tmps := #[v], defers := [] } (shutAll w' ms) := by
      refine ⟨⟨i1.congr (fun _ => rfl) (fun _ => rfl) (Nat.le_refl _) (Nat.le_refl _), ⟨rfl, fun t sv e => ?_, [], rfl, List.nodup_nil, by simp⟩⟩, hr'.ev.shut m4, hr'.hN, hr'.hM, hr'.hc, by simp⟩
      cases t with
      | zero =>
        simp only [List.getElem?_cons_zero, Option.some.injEq] at e
        subst e
        exact hv
      | succ t => simp at e
    obtain ⟨_, ρt, hrt, hlow⟩ := wk_sound k1 hr2 (Nat.le_refl _) rfl
    have hv2 : Den (shutAll w' ms) (Own (extX X s ρ lh B O) (outSt out s') ρt lh') ρt lh' out.tv v := hrt.sat.T.tmp 0 out.tv rfl
    refine leave_ok hs hf hids hO hol hnl hpure' (t := outSt out s') (fun j => ?_) rfl hrt.sat.H hv2 hmine hrt.ev.out hrt.ev.size hrt.ev.keep hrt.ev.own (fun j hj => ?_)
    · show look (newAt 0 (out.own ++ out.new)) j = _
      rw [look_newAt]; simp
    · have hj' : j < (O.map (·.2)).length := by simpa using hj
      rw [hlow j hj']
      have hsome : ∃ r, rho0 O ρ j = some r := by
        have ho : O[j]? = some O[j] := List.getElem?_eq_getElem hj
        obtain ⟨g, b, sz, l, h1, h2, _⟩ := hO j O[j].1 O[j].2 ho
        exact ⟨_, by unfold rho0; rw [ho]; exact h2⟩
      obtain ⟨r, hr⟩ := hsome
      rw [hr]
      exact hr'.ev.rho j hj' r hr
  rcases he with rfl | rfl
  · exact goal
  · exact goal
end
end Go.SE
/- The table of types, checked. -/
namespace Go.SE
open Go

def eqVal : Value → Value → Bool
  | .int k n, .int k' n' => k == k' && n == n'
  | .bool b, .bool b' => b == b'
  | .pointer none, .pointer none => true
  | .nilFunc, .nilFunc => true
  | .slice none 0 0, .slice none 0 0 => true
  | .string a, .string b => decide (a = b)
  | _, _ => false
theorem eqVal_ok {a b : Value} (h : eqVal a b = true) : a = b := by
  unfold eqVal at h
  split at h <;> first | rfl | (cases h; done) | (simp at h; obtain ⟨rfl, rfl⟩ := h; rfl) | (simp at h; subst h; rfl)
def eqVals : List Value → List Value → Bool
  | [], [] => true
  | a :: r, b :: r' => eqVal a b && eqVals r r'
  | _, _ => false
theorem eqVals_ok : ∀ {a b : List Value}, eqVals a b = true → a = b := by
  intro a
  induction a with
  | nil => intro b h; cases b with | nil => rfl | cons _ _ => cases h
  | cons x r ih =>
    intro b h
    cases b with
    | nil => cases h
    | cons y r' =>
      simp only [eqVals, Bool.and_eq_true] at h
      rw [eqVal_ok h.1, ih h.2]
def kCheck : TK → TypeDesc → Bool
  | .bool, .bool => true
  | .i64, .int .i64 => true
  | .u8, .int .u8 => true
  | .u16, .int .u16 => true
  | .u32, .int .u32 => true
  | .u64, .int .u64 => true
  | .str, .string => true
  | .ptr e, .pointer e' => e == e'
  | .slice e, .slice e' => e == e'
  | .arr n e, .array n' e' => n == n' && e == e'
  | .struct fs, .struct fields => fields.toList.map (fun f => (f.offset, f.type)) == fs
  | .func, .func _ _ _ => true
  | _, _ => false
theorem kCheck_ok {k : TK} {d : TypeDesc} (h : kCheck k d = true) : kOK k d := by
  unfold kCheck at h
  split at h <;> first | exact rfl | (simp at h; done) | skip
  · simp at h; subst h; rfl
  · simp at h; subst h; rfl
  · simp at h; obtain ⟨rfl, rfl⟩ := h; rfl
  · simp only [beq_iff_eq] at h; exact ⟨_, rfl, h⟩
  · exact ⟨_, _, _, rfl⟩
def tiCheck (P : Program) (t : Nat) (ti : TI) : Bool := match P.underlying t, P.info? t with
  | some d, some i => kCheck ti.k d && (i.size == ti.size && (i.bytes == ti.bytes && ((match i.zero with
    | some z => eqVals z.cells.toList (zvals ti.zero)
    | none => false) && (zok ti.zero && ((zvals ti.zero).length == ti.size && (ti.agg || ti.size == 1))))))
  | _, _ => false
theorem tiCheck_ok {P : Program} {t : Nat} {ti : TI} (h : tiCheck P t ti = true) : TIok P t ti := by
  unfold tiCheck at h
  split at h
  · rename_i d i hd hi
    simp only [Bool.and_eq_true, beq_iff_eq, Bool.or_eq_true] at h
    obtain ⟨h1, h2, h3, h4, h5, h6, h7⟩ := h
    split at h4
    · rename_i z hz
      exact ⟨⟨d, hd, kCheck_ok h1⟩, ⟨i, hi, h2, h3, z, hz, eqVals_ok h4⟩, h5, h6, fun ha => h7.resolve_left (by rw [ha]; simp)⟩
    · cases h4
  · cases h
def tabCheck (P : Program) : List TI → Nat → Bool
  | [], _ => true
  | ti :: r, t => (match ti.k with
    | .other => true
    | _ => tiCheck P t ti) && tabCheck P r (t + 1)
theorem tabCheck_ok {P : Program} : ∀ {T : List TI} {t0 : Nat}, tabCheck P T t0 = true → ∀ t ti, T[t]? = some ti → ti.k ≠ .other → TIok P (t0 + t) ti := by
  intro T
  induction T with
  | nil => intro t0 _ t ti h; simp at h
  | cons x r ih =>
    intro t0 h t ti ht hk
    simp only [tabCheck, Bool.and_eq_true] at h
    cases t with
    | zero =>
      simp only [List.getElem?_cons_zero, Option.some.injEq] at ht
      subst ht
      have h1 := h.1
      split at h1
      · rename_i he; exact absurd he hk
      · exact tiCheck_ok h1
    | succ t =>
      have := ih h.2 t ti (by simpa using ht) hk
      rwa [show t0 + 1 + t = t0 + (t + 1) by omega] at this
theorem TabOK.of_check {P : Program} {T : List TI} (h : tabCheck P T 0 = true) : TabOK P T := fun t ti ht hk => by
  have := tabCheck_ok h t ti ht hk
  rwa [Nat.zero_add] at this
end Go.SE
