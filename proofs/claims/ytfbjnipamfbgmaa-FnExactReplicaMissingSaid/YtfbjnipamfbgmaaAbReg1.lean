/- What an operation looks at, and what it changes. -/
import Derived.Test.YtfbjnipamfbgmaaAbOper
set_option linter.unusedSimpArgs false
set_option linter.unusedVariables false
namespace Go.Ab

def Opd.slots : Opd → List Nat
  | .t n => [n]
  | .c _ => []

def slotsO : Option Opd → List Nat
  | none => []
  | some x => x.slots

def AOp.slots : AOp → List Nat
  | .mov x | .box x | .load _ _ x | .nilck x | .notb x | .conv _ x | .faddr _ x | .field _ _ _ x | .extr _ x | .len x | .slen x | .bstr x => x.slots
  | .pick c a b => c.slots ++ (a.slots ++ b.slots)
  | .alloc _ => []
  | .build _ ps => ps.flatMap fun p => p.2.2.slots
  | .bsl _ _ ps => ps.flatMap fun p => p.2.slots
  | .store _ x y | .bin _ x y | .eqb _ x y | .eqs _ _ x y | .iaddr _ x y | .istr x y | .app _ _ x y | .mk _ _ x y | .mx _ x y => x.slots ++ y.slots
  | .slice _ x lo hi | .substr x lo hi => x.slots ++ (slotsO lo ++ slotsO hi)
  | .fn _ ks => ks.flatMap Opd.slots
  | .call f xs => f.slots ++ xs.flatMap Opd.slots

theorem ev_eq {T T' : Nat → PV} {x : Opd} (h : ∀ s ∈ x.slots, T s = T' s) : x.ev T = x.ev T' := by
  cases x with
  | t n => exact h n (by simp [Opd.slots])
  | c p => rfl

theorem bnd_eq {T T' : Nat → PV} {d : Int} {x : Option Opd} (h : ∀ s ∈ slotsO x, T s = T' s) : bnd d T x = bnd d T' x := by
  cases x with
  | none => rfl
  | some x => simp only [bnd, ev_eq (x := x) h]

theorem evs_eq {T T' : Nat → PV} {xs : List Opd} (h : ∀ s ∈ xs.flatMap Opd.slots, T s = T' s) : xs.map (fun x => x.ev T) = xs.map (fun x => x.ev T') :=
  List.map_congr_left fun x hx => ev_eq fun s hs => h s (List.mem_flatMap.mpr ⟨x, hx, hs⟩)

theorem sem_T {P : Program} {r : CallRes} {op : AOp} {T T' : Nat → PV} {ρ : Nat → Option AObj} {fr : Nat → Bool} {d : Nat} (h : ∀ s ∈ op.slots, T s = T' s) :
    sem P r op T ρ fr d = sem P r op T' ρ fr d := by
  cases op <;> simp only [AOp.slots, List.mem_append] at h
  case build zs ps =>
    have : (ps.map fun (off, n, x) => (off, n, x.ev T)) = ps.map fun (off, n, x) => (off, n, x.ev T') :=
      List.map_congr_left fun p hp => by simp only [ev_eq (x := p.2.2) fun s hs => h s (List.mem_flatMap.mpr ⟨p, hp, hs⟩)]
    simp only [sem, this]
  case bsl n zs ps =>
    have : (ps.map fun (i, x) => (i, x.ev T)) = ps.map fun (i, x) => (i, x.ev T') :=
      List.map_congr_left fun p hp => by simp only [ev_eq (x := p.2) fun s hs => h s (List.mem_flatMap.mpr ⟨p, hp, hs⟩)]
    simp only [sem, this]
  case fn f ks =>
    have key : ∀ F : PV → Option Nat, ks.map (fun x => F (x.ev T)) = ks.map fun x => F (x.ev T') := fun F =>
      List.map_congr_left fun x hx => by rw [ev_eq (x := x) fun s hs => h s (List.mem_flatMap.mpr ⟨x, hx, hs⟩)]
    simp only [sem]
    exact congrArg (fun l : List (Option Nat) => if (l.all (·.isSome)) = true then some (True, PV.l (.clos f (l.filterMap id)), ([] : List (Nat × Option AObj))) else none)
      (key fun p => match p with
        | .l (.ptr k 0 0) => some k
        | _ => none)
  case call f xs =>
    have h1 := ev_eq (x := f) fun s hs => h s (.inl hs)
    have h2 := evs_eq (xs := xs) fun s hs => h s (.inr hs)
    simp only [sem, callArgs, h1, h2]
  case pick c a b =>
    simp only [sem, ev_eq (x := c) fun s hs => h s (.inl hs), ev_eq (x := a) fun s hs => h s (.inr (.inl hs)), ev_eq (x := b) fun s hs => h s (.inr (.inr hs))]
  case slice e x lo hi =>
    simp only [sem, ev_eq (x := x) fun s hs => h s (.inl hs), bnd_eq (x := lo) fun s hs => h s (.inr (.inl hs)), bnd_eq (x := hi) fun s hs => h s (.inr (.inr hs))]
  case substr x lo hi =>
    simp only [sem, ev_eq (x := x) fun s hs => h s (.inl hs), bnd_eq (x := lo) fun s hs => h s (.inr (.inl hs)), bnd_eq (x := hi) fun s hs => h s (.inr (.inr hs))]
  case alloc => rfl
  case store n x y => simp only [sem, ev_eq (x := x) fun s hs => h s (.inl hs), ev_eq (x := y) fun s hs => h s (.inr hs)]
  case bin n x y => simp only [sem, ev_eq (x := x) fun s hs => h s (.inl hs), ev_eq (x := y) fun s hs => h s (.inr hs)]
  case eqb n x y => simp only [sem, ev_eq (x := x) fun s hs => h s (.inl hs), ev_eq (x := y) fun s hs => h s (.inr hs)]
  case eqs n ks x y => simp only [sem, ev_eq (x := x) fun s hs => h s (.inl hs), ev_eq (x := y) fun s hs => h s (.inr hs)]
  case iaddr n x y => simp only [sem, ev_eq (x := x) fun s hs => h s (.inl hs), ev_eq (x := y) fun s hs => h s (.inr hs)]
  case istr x y => simp only [sem, ev_eq (x := x) fun s hs => h s (.inl hs), ev_eq (x := y) fun s hs => h s (.inr hs)]
  case app b zs x y => simp only [sem, ev_eq (x := x) fun s hs => h s (.inl hs), ev_eq (x := y) fun s hs => h s (.inr hs)]
  case mk b zs x y => simp only [sem, ev_eq (x := x) fun s hs => h s (.inl hs), ev_eq (x := y) fun s hs => h s (.inr hs)]
  case mx b x y => simp only [sem, ev_eq (x := x) fun s hs => h s (.inl hs), ev_eq (x := y) fun s hs => h s (.inr hs)]
  case mov x => simp only [sem, ev_eq (x := x) h]
  case box x => simp only [sem, ev_eq (x := x) h]
  case load n g x => simp only [sem, ev_eq (x := x) h]
  case nilck x => simp only [sem, ev_eq (x := x) h]
  case notb x => simp only [sem, ev_eq (x := x) h]
  case conv k x => simp only [sem, ev_eq (x := x) h]
  case bstr x => simp only [sem, ev_eq (x := x) h]
  case faddr k x => simp only [sem, ev_eq (x := x) h]
  case field off n g x => simp only [sem, ev_eq (x := x) h]
  case extr k x => simp only [sem, ev_eq (x := x) h]
  case len x => simp only [sem, ev_eq (x := x) h]
  case slen x => simp only [sem, ev_eq (x := x) h]

/-- The objects that a leaf leads to, and what a callee may see of them. -/
def LK : L → List Nat
  | .sl k _ _ => [k]
  | .ptr k _ _ => [k]
  | _ => []

def PK : PV → List Nat
  | .l x => LK x
  | _ => []

def footL (ks : List Nat) (ρ : Nat → Option AObj) : L → List Nat
  | .sl k _ _ => [k]
  | .ptr k e o => k :: (match idx ks k with
    | some _ => []
    | none => match ρ k with
      | some ob => match ob.es[e]? with
        | some cs => (cs.drop o).flatMap LK
        | none => []
      | none => [])
  | _ => []

def footP (ks : List Nat) (ρ : Nat → Option AObj) : PV → List Nat
  | .l x => footL ks ρ x
  | .agg cs => cs.flatMap (footL ks ρ)
  | .tup _ => []

def foot (r : CallRes) (op : AOp) (T : Nat → PV) (ρ : Nat → Option AObj) (d : Nat) : List Nat × List Nat :=
  match op with
  | .alloc _ | .box _ | .bsl _ _ _ | .mk _ _ _ _ => ([], [d])
  | .load _ _ x | .nilck x | .faddr _ x | .slice _ x _ _ | .iaddr _ x _ | .len x | .bstr x => (PK (x.ev T), [])
  | .store _ x _ => (PK (x.ev T), PK (x.ev T))
  | .app _ _ x y => (PK (x.ev T) ++ PK (y.ev T), d :: PK (x.ev T))
  | .call f xs => match f.ev T with
    | .l (.clos _ cs) => ((callArgs T xs cs).flatMap (footP r.ks ρ) ++ r.ks, (r.ks.filter fun k => !r.same.contains k) ++ (List.range r.news.length).map (key d))
    | _ => ([], [])
  | _ => ([], [])

section
variable {P : Program} {r : CallRes} {op : AOp} {T : Nat → PV} {ρ ρ' : Nat → Option AObj} {fr fr' : Nat → Bool} {d : Nat}

theorem foot_T {T' : Nat → PV} (h : ∀ s ∈ op.slots, T s = T' s) : foot r op T ρ d = foot r op T' ρ d := by
  cases op <;> simp only [AOp.slots, List.mem_append] at h <;> try rfl
  case call f xs =>
    have h1 := ev_eq (x := f) fun s hs => h s (.inl hs)
    have h2 := evs_eq (xs := xs) fun s hs => h s (.inr hs)
    simp only [foot, callArgs, h1, h2]
  case slice e x lo hi => simp only [foot, ev_eq (x := x) fun s hs => h s (.inl hs)]
  case store n x y => simp only [foot, ev_eq (x := x) fun s hs => h s (.inl hs)]
  case iaddr n x y => simp only [foot, ev_eq (x := x) fun s hs => h s (.inl hs)]
  case app b zs x y => simp only [foot, ev_eq (x := x) fun s hs => h s (.inl hs), ev_eq (x := y) fun s hs => h s (.inr hs)]
  case load n g x => simp only [foot, ev_eq (x := x) h]
  case bstr x => simp only [foot, ev_eq (x := x) h]
  case nilck x => simp only [foot, ev_eq (x := x) h]
  case faddr k x => simp only [foot, ev_eq (x := x) h]
  case len x => simp only [foot, ev_eq (x := x) h]

theorem vw1_eq {x : L} (h : ∀ k ∈ LK x, ρ k = ρ' k) : vw1 ρ x = vw1 ρ' x := by
  cases x with
  | sl k off len => simp only [vw1, h k (by simp [LK])]
  | _ => rfl

theorem vw1Ok_eq {ks : List Nat} {x : L} (h : ∀ k ∈ LK x, ρ k = ρ' k) : vw1Ok ks ρ x = vw1Ok ks ρ' x := by
  cases x with
  | sl k off len => simp only [vw1Ok, h k (by simp [LK])]
  | _ => rfl

theorem argL_eq {ks : List Nat} {x : L} (h : ∀ k ∈ footL ks ρ x, ρ k = ρ' k) : argL ks ρ x = argL ks ρ' x ∧ argOk ks ρ x = argOk ks ρ' x ∧ footL ks ρ x = footL ks ρ' x := by
  cases x with
  | sl k off len =>
    have h1 := h k (by simp [footL])
    simp only [argL, argOk, footL, vw, vwOk, vw1, vw1Ok, h1, and_self]
  | ptr k e o =>
    have h1 := h k (by simp [footL])
    simp only [argL, argOk, footL]
    cases hi : idx ks k with
    | some i => exact ⟨rfl, rfl, rfl⟩
    | none =>
      simp only [footL, hi] at h
      simp only [vw, vwOk, ← h1]
      cases ho : ρ k with
      | none => exact ⟨rfl, rfl, trivial⟩
      | some ob =>
        cases he : ob.es[e]? with
        | none => simp only [he, and_self]
        | some cs =>
          simp only [ho, he] at h
          have hk : ∀ x ∈ cs.drop o, ∀ k ∈ LK x, ρ k = ρ' k := fun x hx k hk => h k (by
            simp only [List.mem_cons, List.mem_flatMap]; exact .inr ⟨x, hx, hk⟩)
          simp only [he, hi, and_true]
          refine ⟨?_, ?_⟩
          · rw [List.map_congr_left fun x hx => vw1_eq (hk x hx)]
          · congr 1
            apply propext
            exact forall_congr' fun x => forall_congr' fun hx => by rw [vw1Ok_eq (hk x hx)]
  | _ => exact ⟨rfl, rfl, rfl⟩

theorem argP_eq {ks : List Nat} {p : PV} (h : ∀ k ∈ footP ks ρ p, ρ k = ρ' k) : argP ks ρ p = argP ks ρ' p ∧ argPOk ks ρ p = argPOk ks ρ' p ∧ footP ks ρ p = footP ks ρ' p := by
  cases p with
  | l x =>
    have := argL_eq (x := x) h
    simp only [argP, argPOk, footP, this, and_self]
  | agg cs =>
    have hx : ∀ x ∈ cs, ∀ k ∈ footL ks ρ x, ρ k = ρ' k := fun x hx k hk => h k (List.mem_flatMap.mpr ⟨x, hx, hk⟩)
    refine ⟨?_, ?_, ?_⟩
    · simp only [argP]; rw [List.map_congr_left fun x h => (argL_eq (hx x h)).1]
    · simp only [argPOk]; apply propext; exact forall_congr' fun x => forall_congr' fun h => by rw [(argL_eq (hx x h)).2.1]
    · simp only [footP, List.flatMap]
      rw [List.map_congr_left fun x h => (argL_eq (hx x h)).2.2]
  | tup ps => exact ⟨rfl, rfl, rfl⟩

theorem newsOf_eq {e : Nat} {p : PV} (h : ∀ k ∈ PK p, ρ k = ρ' k) : newsOf e ρ p = newsOf e ρ' p := by
  unfold newsOf
  split
  · rw [h _ (by simp [PK, LK])]
  · rfl
  · rfl
  · rfl

theorem sem_ρ (h : ∀ k ∈ (foot r op T ρ d).1, ρ k = ρ' k) (hf : ∀ k ∈ (foot r op T ρ d).2, fr k = fr' k) :
    sem P r op T ρ fr d = sem P r op T ρ' fr' d ∧ foot r op T ρ d = foot r op T ρ' d := by
  cases op <;> simp only [foot, List.mem_append, List.mem_singleton, List.mem_cons, forall_eq_or_imp, forall_eq, List.not_mem_nil] at h hf
  case call f xs =>
    by_cases hcl : ∃ g cs, f.ev T = .l (.clos g cs)
    · obtain ⟨g, cs, hg⟩ := hcl
      simp only [sem, foot, hg]
      simp only [hg, List.mem_append] at h hf
      have hk : ∀ k ∈ r.ks, ρ k = ρ' k := fun k hk => h k (.inr hk)
      have ha : ∀ p ∈ callArgs T xs cs, ∀ k ∈ footP r.ks ρ p, ρ k = ρ' k := fun p hp k hk => h k (.inl (List.mem_flatMap.mpr ⟨p, hp, hk⟩))
      have e1 : (callArgs T xs cs).map (argP r.ks ρ) = (callArgs T xs cs).map (argP r.ks ρ') := List.map_congr_left fun p hp => (argP_eq (ha p hp)).1
      have e2 : (∀ p ∈ callArgs T xs cs, argPOk r.ks ρ p) = ∀ p ∈ callArgs T xs cs, argPOk r.ks ρ' p := by
        apply propext; exact forall_congr' fun p => forall_congr' fun hp => by rw [(argP_eq (ha p hp)).2.1]
      have e3 : callIns r.ks ρ = callIns r.ks ρ' := List.map_congr_left fun k hk' => by rw [hk k hk']
      have e4 : (r.ks.all fun k => (ρ k).isSome) = r.ks.all fun k => (ρ' k).isSome := by
        rw [Bool.eq_iff_iff]; simp only [List.all_eq_true]; exact forall_congr' fun k => forall_congr' fun hk' => by rw [hk k hk']
      have e5 : ((List.range r.news.length).all fun j => fr (key d j)) = (List.range r.news.length).all fun j => fr' (key d j) := by
        rw [Bool.eq_iff_iff]; simp only [List.all_eq_true]; exact forall_congr' fun j => forall_congr' fun hj => by rw [hf (key d j) (.inr (List.mem_map.mpr ⟨j, hj, rfl⟩))]
      have e6 : (∀ x ∈ callBack r.ks d r.outs, x.1 ∈ r.same → ρ x.1 = x.2) = ∀ x ∈ callBack r.ks d r.outs, x.1 ∈ r.same → ρ' x.1 = x.2 := by
        apply propext
        refine forall_congr' fun x => forall_congr' fun hx => ?_
        have : x.1 ∈ r.ks := by
          simp only [callBack, List.mem_map] at hx
          obtain ⟨q, hq, rfl⟩ := hx
          exact (List.mem_zipIdx hq).2.2 ▸ List.getElem_mem _
        rw [hk _ this]
      have e7 : (callArgs T xs cs).flatMap (footP r.ks ρ) = (callArgs T xs cs).flatMap (footP r.ks ρ') := by
        simp only [List.flatMap]; rw [List.map_congr_left fun p hp => (argP_eq (ha p hp)).2.2]
      simp only [e1, e2, e3, e4, e5, e6, e7, and_self]
    · have n1 : ∀ ρ fr, sem P r (.call f xs) T ρ fr d = none := by
        intro ρ fr
        simp only [sem]
        split
        · rename_i g cs hg; exact absurd ⟨g, cs, hg⟩ hcl
        · rfl
      have n2 : ∀ ρ, foot r (.call f xs) T ρ d = ([], []) := by
        intro ρ
        simp only [foot]
        split
        · rename_i g cs hg; exact absurd ⟨g, cs, hg⟩ hcl
        · rfl
      rw [n1, n1, n2, n2]
      exact ⟨rfl, rfl⟩
  case alloc zs => simp only [sem, foot, hf, and_self]
  case box x => simp only [sem, foot, hf, and_self]
  case bsl n zs ps => simp only [sem, foot, hf, and_self]
  case mk b zs x y => simp only [sem, foot, hf, and_self]
  case app b zs x y =>
    have hy := newsOf_eq (e := zs.length) (p := y.ev T) fun k hk => h k (.inr hk)
    simp only [sem, foot, hf.1, hy, and_true]
    split
    · rfl
    · split
      · split
        · rfl
        · rename_i k n hx
          rw [h k (.inl (by rw [hx]; simp [PK, LK]))]
        · rfl
      · rfl
  case load n g x =>
    simp only [sem, foot, and_true]
    split
    · rename_i k e o hx; rw [h k (by rw [hx]; simp [PK, LK])]
    · rfl
    · rfl
  case nilck x =>
    simp only [sem, foot, and_true]
    split
    · rename_i k e o hx; rw [h k (by rw [hx]; simp [PK, LK])]
    · rfl
    · rfl
    · rfl
  case faddr n x =>
    simp only [sem, foot, and_true]
    split
    · rename_i k e o hx; rw [h k (by rw [hx]; simp [PK, LK])]
    · rfl
    · rfl
  case slice e x lo hi =>
    simp only [sem, foot, and_true]
    split
    · rename_i k o l hx; rw [h k (by rw [hx]; simp [PK, LK])]
    · rfl
    · rfl
    · rfl
  case iaddr e x i =>
    simp only [sem, foot, and_true]
    split
    · rename_i k o l _ n hx hi; rw [h k (by rw [hx]; simp [PK, LK])]
    · rfl
    · rfl
  case bstr x =>
    have hx := newsOf_eq (e := 1) (p := x.ev T) fun k hk => h k hk
    simp only [sem, foot, hx, and_true]
  case len x =>
    simp only [sem, foot, and_true]
    split
    · rename_i k e o hx; rw [h k (by rw [hx]; simp [PK, LK])]
    · rfl
    · rfl
    · rfl
  case store n x y =>
    simp only [sem, foot, and_true]
    split
    · rename_i k e o hx; rw [h k (by rw [hx]; simp [PK, LK])]
    · rfl
  all_goals exact ⟨rfl, rfl⟩

theorem sem_W {c : Prop} {v : PV} {Δ : List (Nat × Option AObj)} (h : sem P r op T ρ fr d = some (c, v, Δ)) : ∀ x ∈ Δ, x.1 ∈ (foot r op T ρ d).2 := by
  cases op <;> simp only [sem] at h
  case call f xs =>
    split at h
    · rename_i g cs hg
      simp only [foot, hg]
      split at h
      · simp only [Option.some.injEq, Prod.mk.injEq] at h
        obtain ⟨-, -, rfl⟩ := h
        intro x hx
        simp only [List.mem_append, List.mem_filter, List.mem_map] at hx ⊢
        rcases hx with ⟨hx, hs⟩ | ⟨q, hq, rfl⟩
        · refine .inl ⟨?_, hs⟩
          simp only [callBack, List.mem_map] at hx
          obtain ⟨q, hq, rfl⟩ := hx
          exact (List.mem_zipIdx hq).2.2 ▸ List.getElem_mem _
        · exact .inr ⟨q.2, List.mem_range.mpr (by have := (List.mem_zipIdx hq).2.1; omega), rfl⟩
      · cases h
    · cases h
  all_goals (try simp only [foot])
  all_goals (repeat' split at h)
  all_goals (try (cases h; done))
  all_goals (try simp only [Option.some.injEq, Prod.mk.injEq, Option.map_eq_some_iff] at h)
  all_goals (try (obtain ⟨-, -, rfl⟩ := h))
  all_goals (try (obtain ⟨_, _, -, -, rfl⟩ := h))
  all_goals (try (simp; done))
  all_goals (try simp_all [PK, LK]; done)
end
end Go.Ab
