import PyProof.Rows.All
import Wide.All
import OpenK.AllK
import Wide.FinOn
import PySem.Challenge.RW_k19_0010
open PySem PySem.W PyProof.Rows PySem.Calls PyProof.V PySem.Spec
set_option Elab.async false
set_option maxRecDepth 100000
namespace Mine
/-- a block: where it starts, how many words, is it free -/
structure Blk where
  at_ : Int
  wid : Int
  free : Bool

/-- the words of the block whose head is h -/
def width (h : Int) : Int := if 0 ≤ h then h + 1 else -h

theorem width_pos (h : Int) : 1 ≤ width h := by
  unfold width; split <;> omega

/-- from place s on, the words m are tiled by the blocks bs -/
inductive Tiling : Int → List Int → List Blk → Prop
  | nil (s : Int) : Tiling s [] []
  | cons {s : Int} (h : Int) (rest m : List Int) {bs : List Blk} : (rest.length : Int) + 1 = width h → Tiling (s + width h) m bs →
      Tiling s (h :: (rest ++ m)) (⟨s, width h, decide (h < 0)⟩ :: bs)

theorem Tiling.append {s : Int} {m : List Int} {bs : List Blk} (h : Tiling s m bs) : ∀ {m' bs'}, Tiling (s + (m.length : Int)) m' bs' → Tiling s (m ++ m') (bs ++ bs') := by
  induction h with
  | nil s => intro m' bs' h'; simpa using h'
  | cons h rest m hw _ ih =>
    intro m' bs' h'
    rw [List.cons_append, List.append_assoc, List.cons_append]
    refine .cons h rest (m ++ m') hw (ih ?_)
    have e : ∀ s : Int, s + width h + (m.length : Int) = s + (((h :: (rest ++ m)).length : Nat) : Int) := by
      intro s; simp only [List.length_cons, List.length_append]; omega
    rw [e]; exact h'

theorem Tiling.one {s : Int} (h : Int) (rest : List Int) (hw : (rest.length : Int) + 1 = width h) : Tiling s (h :: rest) [⟨s, width h, decide (h < 0)⟩] := by
  have := Tiling.cons (s := s) h rest [] hw (.nil _)
  rwa [List.append_nil] at this

theorem Tiling.length_le {s : Int} {m : List Int} {bs : List Blk} (h : Tiling s m bs) : bs.length ≤ m.length := by
  induction h with
  | nil => simp
  | cons h rest m _ _ ih => simp only [List.length_cons, List.length_append]; omega

/-- the scan of blocks_of, just ahead of turn j: done the blocks so far, a the next head -/
def ScanAt (mem : List Int) (bs : List Blk) (j : Nat) (done : List Blk) (a : Int) : Prop :=
  ∃ todo md mt, mem = md ++ mt ∧ a = (md.length : Int) ∧ j ≤ md.length ∧ Tiling a mt todo ∧ bs = done ++ todo ∧ done.length ≤ j

theorem ScanAt.start {mem : List Int} {bs : List Blk} (h : Tiling 0 mem bs) : ScanAt mem bs 0 [] 0 :=
  ⟨bs, [], mem, rfl, rfl, Nat.le_refl _, h, rfl, Nat.le_refl _⟩

theorem ScanAt.miss {mem : List Int} {bs done : List Blk} {j : Nat} {a : Int} (h : ScanAt mem bs j done a) (hj : (j : Int) ≠ a) : ScanAt mem bs (j + 1) done a := by
  obtain ⟨todo, md, mt, e1, e2, e3, e4, e5, e6⟩ := h
  exact ⟨todo, md, mt, e1, e2, by omega, e4, e5, by omega⟩

theorem ScanAt.hit {mem : List Int} {bs done : List Blk} {j : Nat} {a : Int} (h : ScanAt mem bs j done a) (hj : (j : Int) = a) (hl : j < mem.length) :
    (j : Int) + width (mem.getD j 0) ≤ (mem.length : Int) ∧ ScanAt mem bs (j + 1) (done ++ [⟨(j : Int), width (mem.getD j 0), decide (mem.getD j 0 < 0)⟩]) ((j : Int) + width (mem.getD j 0)) := by
  obtain ⟨todo, md, mt, e1, e2, e3, e4, e5, e6⟩ := h
  have hmd : md.length = j := by omega
  cases e4 with
  | nil => subst e1; simp at hl; omega
  | @cons _ hd rest m bs' hw ht =>
    have hg : mem.getD j 0 = hd := by
      rw [e1, ← hmd, List.getD_eq_getElem?_getD, List.getElem?_append_right (Nat.le_refl _)]
      simp
    rw [hg]
    have hlen : (mem.length : Int) = (md.length : Int) + ((rest.length : Int) + 1 + (m.length : Int)) := by
      rw [e1]; simp only [List.length_append, List.length_cons]; omega
    have hp := width_pos hd
    refine ⟨by omega, bs', md ++ hd :: rest, m, ?_, ?_, ?_, ?_, ?_, ?_⟩
    · rw [e1, List.append_assoc, List.cons_append]
    · simp only [List.length_append, List.length_cons]; omega
    · simp only [List.length_append, List.length_cons]; omega
    · rw [hj]; exact ht
    · rw [e5, List.append_assoc, hj]; rfl
    · simp only [List.length_append, List.length_cons, List.length_nil]; omega

theorem ScanAt.len {mem : List Int} {bs done : List Blk} {j : Nat} {a : Int} (h : ScanAt mem bs j done a) : done.length ≤ j := by
  obtain ⟨_, _, _, _, _, _, _, _, e⟩ := h; exact e

theorem ScanAt.bounds {mem : List Int} {bs done : List Blk} {j : Nat} {a : Int} (h : ScanAt mem bs j done a) : (j : Int) ≤ a ∧ a ≤ (mem.length : Int) := by
  obtain ⟨_, md, mt, e1, e2, e3, _⟩ := h
  subst e1; simp only [List.length_append]; omega

theorem ScanAt.fin {mem : List Int} {bs done : List Blk} {a : Int} (h : ScanAt mem bs mem.length done a) : done = bs := by
  obtain ⟨todo, md, mt, e1, e2, e3, e4, e5, _⟩ := h
  have : mt = [] := by
    have : mt.length = 0 := by rw [e1] at e3; simp only [List.length_append] at e3; omega
    exact List.length_eq_zero_iff.mp this
  subst this
  cases e4 with
  | nil => rw [e5, List.append_nil]

/-- the addresses of the objects -/
def addrs (bs : List Blk) : List Int := (bs.filter fun b => !b.free).map (·.at_)
theorem addrs_append (a b : List Blk) : addrs (a ++ b) = addrs a ++ addrs b := by
  simp [addrs]
/-- the words in free blocks -/
def freeSum : List Blk → Int
  | [] => 0
  | b :: r => (if b.free then b.wid else 0) + freeSum r
theorem freeSum_append (a b : List Blk) : freeSum (a ++ b) = freeSum a + freeSum b := by
  induction a with
  | nil => simp [freeSum]
  | cons x r ih => simp only [List.cons_append, freeSum, ih]; omega

/-- what the law's loop has built so far: the memory, the words in free blocks -/
def BuiltS (mem : List Int) (due : Int) : Prop := ∃ bs, Tiling 0 mem bs ∧ due = freeSum bs

theorem builtS_nil : BuiltS [] 0 := ⟨[], .nil _, rfl⟩

theorem builtS_obj {mem xs : List Int} {due k : Int} (h : BuiltS mem due) (h0 : 0 ≤ k) (hl : (xs.length : Int) = k) : BuiltS (mem ++ [k] ++ xs) due := by
  obtain ⟨bs, ht, hd⟩ := h
  have hxl : (xs.length : Int) + 1 = width k := by unfold width; rw [if_pos h0]; omega
  refine ⟨bs ++ [⟨0 + (mem.length : Int), width k, decide (k < 0)⟩], ?_, ?_⟩
  · have := ht.append (Tiling.one (s := 0 + (mem.length : Int)) k xs hxl)
    rw [List.append_assoc]; exact this
  · rw [freeSum_append, hd]
    have : decide (k < 0) = false := by simp; omega
    simp [freeSum, this]

theorem builtS_free {mem xs : List Int} {due n : Int} (h : BuiltS mem due) (h0 : 0 < n) (hl : (xs.length : Int) + 1 = n) : BuiltS (mem ++ [-n] ++ xs) (due + n) := by
  obtain ⟨bs, ht, hd⟩ := h
  have hxl : (xs.length : Int) + 1 = width (-n) := by unfold width; rw [if_neg (by omega)]; omega
  refine ⟨bs ++ [⟨0 + (mem.length : Int), width (-n), decide (-n < 0)⟩], ?_, ?_⟩
  · have := ht.append (Tiling.one (s := 0 + (mem.length : Int)) (-n) xs hxl)
    rw [List.append_assoc]; exact this
  · rw [freeSum_append, hd]
    have hw : width (-n) = n := by unfold width; rw [if_neg (by omega)]; omega
    simp [freeSum, hw]; omega

def toDat (b : Blk) : Dat := .tuple [.int b.at_, .int b.wid, .bool b.free]
/-- the scan, said of the data that the program holds -/
def ScanD (mem : List Int) (bs : List Blk) (j : Nat) (blocks : List Dat) (a : Int) : Prop :=
  ∃ done, blocks = done.map toDat ∧ ScanAt mem bs j done a

def Shaped (blocks : List Dat) : Prop := ∀ d ∈ blocks, ∃ (a n : Int) (f : Bool), d = Dat.tuple [Dat.int a, Dat.int n, Dat.bool f]

theorem scan_start {mem : List Int} {bs : List Blk} (h : Tiling 0 mem bs) : ScanD mem bs 0 [] 0 ∧ ([] : List Dat).length ≤ 0 :=
  ⟨⟨[], rfl, ScanAt.start h⟩, Nat.le_refl _⟩

theorem scan_miss {mem : List Int} {bs : List Blk} {j : Nat} {blocks : List Dat} {a k : Int} (h : ScanD mem bs j blocks a) (hl : blocks.length ≤ j) (hk : k = (j : Int)) (hn : k ≠ a) :
    ScanD mem bs (j + 1) blocks a ∧ blocks.length ≤ j + 1 := by
  obtain ⟨done, e, hs⟩ := h
  exact ⟨⟨done, e, hs.miss (by omega)⟩, by omega⟩

theorem scan_no {mem : List Int} {bs : List Blk} {j : Nat} {blocks : List Dat} {a : Int} (h : ScanD mem bs j blocks a) (hj : j < mem.length) (ha : (j : Int) = a) :
    (j : Int) + width (mem.getD j 0) ≤ (mem.length : Int) := by
  obtain ⟨done, e, hs⟩ := h
  exact (hs.hit ha hj).1

theorem scan_hit {mem : List Int} {bs : List Blk} {j : Nat} {blocks : List Dat} {a n : Int} {f : Bool} (h : ScanD mem bs j blocks a) (hl : blocks.length ≤ j) (hj : j < mem.length) (ha : (j : Int) = a) (hn : n = width (mem.getD j 0)) (hf : f = decide (mem.getD j 0 < 0)) :
    ScanD mem bs (j + 1) (blocks ++ [Dat.tuple [Dat.int (j : Int), Dat.int n, Dat.bool f]]) ((j : Int) + n) ∧ (blocks ++ [Dat.tuple [Dat.int (j : Int), Dat.int n, Dat.bool f]]).length ≤ j + 1 := by
  obtain ⟨done, e, hs⟩ := h
  have q := (hs.hit ha hj).2
  subst hn hf
  refine ⟨⟨_, ?_, q⟩, by simp only [List.length_append, List.length_cons, List.length_nil]; omega⟩
  rw [e, List.map_append]; rfl

theorem scan_fin {mem : List Int} {bs : List Blk} {j : Nat} {blocks : List Dat} {a : Int} (h : ScanD mem bs j blocks a) (hj : j = mem.length) : blocks = bs.map toDat := by
  subst hj
  obtain ⟨done, e, hs⟩ := h
  rw [e, hs.fin]

theorem st_start {ns : List Int} {bs : List Blk} (h : Tiling 0 ns bs) : ScanD ns bs ([] : List Int).length [] 0 ∧ ([] : List Dat).length ≤ ([] : List Int).length := scan_start h
theorem st_miss {ns pre : List Int} {bs : List Blk} {blocks : List Dat} {a k : Int} (h : ScanD ns bs pre.length blocks a) (hl : blocks.length ≤ pre.length) (hk : k = (pre.length : Int)) (hn : k ≠ a) :
    ScanD ns bs (pre ++ [k]).length blocks a ∧ blocks.length ≤ (pre ++ [k]).length := by
  rw [List.length_append]; exact scan_miss h hl hk hn
theorem st_no {ns pre : List Int} {bs : List Blk} {blocks : List Dat} {a k : Int} (h : ScanD ns bs pre.length blocks a) (hk : k = (pre.length : Int)) (hj : pre.length < ns.length) (ha : k = a) :
    k + width (ns.getD k.toNat 0) ≤ (ns.length : Int) := by
  have e : k.toNat = pre.length := by omega
  rw [e, hk]; exact scan_no h hj (by omega)
theorem st_hit {ns pre : List Int} {bs : List Blk} {blocks : List Dat} {a k n : Int} {f : Bool} (h : ScanD ns bs pre.length blocks a) (hl : blocks.length ≤ pre.length) (hk : k = (pre.length : Int)) (hj : pre.length < ns.length) (ha : k = a)
    (hn : n = width (ns.getD k.toNat 0)) (hf : f = decide (ns.getD k.toNat 0 < 0)) :
    ScanD ns bs (pre ++ [k]).length (blocks ++ [Dat.tuple [Dat.int k, Dat.int n, Dat.bool f]]) (k + n) ∧ (blocks ++ [Dat.tuple [Dat.int k, Dat.int n, Dat.bool f]]).length ≤ (pre ++ [k]).length := by
  have e : k.toNat = pre.length := by omega
  rw [e] at hn hf
  have := scan_hit h hl hj (by omega) hn hf
  rw [← hk] at this
  rw [List.length_append]; exact this
theorem dat_fin {ns : List Int} {bs : List Blk} {j : Nat} {blocks : List Dat} {a : Int} {L9 : List (Addr × Obj)} {vs : List Value} (h : ScanD ns bs j blocks a) (hj : j = ns.length) (hd : DatAll L9 vs blocks) : DatAll L9 vs (bs.map toDat) := scan_fin h hj ▸ hd
theorem width_nn {h : Int} (e : 0 ≤ h) : h + 1 = width h := by unfold width; rw [if_pos e]
theorem width_ng {h : Int} (e : h < 0) : -h = width h := by unfold width; rw [if_neg (by omega)]

/-- between the turns: one name holds a list of ints (which list it is may change), another an int, a cell stands at cw; all else made is forgotten -/
def RebJ (cw : Addr) (nm nd : Str) (stored : List Str) (x : Str) (m₀ : Str → Option Value) (P : List Int → List Int → Int → Prop) (pre : List Int) (m : Str → Option Value) (nx : List (Addr × Obj)) : Prop :=
  ∃ (a : Addr) (vs : List Value) (ns : List Int) (c : Nat) (d : Int) (t : Tok) (o : Obj) (ov : Option Value), nx = [(a, listOf vs.toArray c), (cw, o)] ∧ o.data = .cell ov ∧ a ≠ cw ∧ IntsAre vs ns ∧ m nm = some (.ref a) ∧ m nd = some (.int d t) ∧
    (∀ z, z ≠ x → z ≠ nm → z ≠ nd → stored.contains z = false → m z = m₀ z) ∧ P pre ns d
section
variable {prog : Program} {w : World} {A : Around} {E : Value → Shared → Prop} {s : Shared} {env : Env} {h₀ : Heap} {x : Str} {body : List Stmt} {Q : Flow → Shared → Prop}

theorem reb_range {r : Addr} {a₀ b₀ : Int} {t₀ u₀ v₀ : Tok} {n : Nat} {m₀ : Str → Option Value} {news : List (Addr × Obj)} (cw : Addr) (nm nd : Str) (stored : List Str) (P : List Int → List Int → Int → Prop)
    {a : Addr} {vs : List Value} {ns : List Int} {c : Nat} {d : Int} {t : Tok} {o : Obj} {ov : Option Value}
    (hh : A.handled = none) (hr : IsRange s.heap r a₀ b₀ 1 t₀ u₀ v₀) (hsmall : Builtin.Range.small a₀ b₀ 1 = true) (hsz : Builtin.Range.rangeSize a₀ b₀ 1 = (n : Int)) (F : Fr h₀ env.locals s.heap m₀) (N : News h₀ env.locals s.heap news)
    (hm : (a, listOf vs.toArray c) ∈ news) (hc : (cw, o) ∈ news) (hod : o.data = .cell ov) (hac : a ≠ cw) (hi : IntsAre vs ns) (h1 : m₀ nm = some (.ref a)) (h2 : m₀ nd = some (.int d t)) (hp : P [] ns d)
    (turn : ∀ (a : Addr) (vs : List Value) (ns : List Int) (c : Nat) (d : Int) (t : Tok) (o : Obj) (ov : Option Value) (pre : List Int) (k : Int) (tt : Tok) (u : Str → Option Value) h tk own, k = a₀ + (pre.length : Int) → pre.length < n → OwnOff own [a, cw] → @Ne Nat a cw → o.data = .cell ov → IntsAre vs ns → P pre ns d →
      Fr h₀ env.locals h (fun y => if y = x then some (.int k tt) else if y = nm then some (.ref a) else if y = nd then some (.int d t) else if stored.contains y then u y else m₀ y) → News h₀ env.locals h ((a, listOf vs.toArray c) :: (cw, o) :: own) →
      wpAny (model prog w) A (execs body env) (InvPostG h₀ env.locals (RebJ cw nm nd stored x m₀ P (pre ++ [k])) own { s with heap := h, toks := tk } Q) E { s with heap := h, toks := tk })
    (done : ∀ (a : Addr) (vs : List Value) (ns : List Int) (c : Nat) (d : Int) (t : Tok) (o : Obj) (ov : Option Value) (u : Str → Option Value) h tk, @Ne Nat a cw → o.data = .cell ov → IntsAre vs ns → P (rangeKs a₀ n) ns d →
      Fr h₀ env.locals h (fun y => if y = x then u y else if y = nm then some (.ref a) else if y = nd then some (.int d t) else if stored.contains y then u y else m₀ y) → News h₀ env.locals h [(a, listOf vs.toArray c), (cw, o)] → Q .next { s with heap := h, toks := tk }) :
    wpAny (model prog w) A (pyIter (.ref r)) (fun it s₂ => LoopAtV prog w A h₀ env x body Q E it s₂) E s := by
  have sub : ∀ p ∈ [(a, listOf vs.toArray c), (cw, o)], p ∈ news := by
    intro p hp
    rcases List.mem_cons.mp hp with rfl | hp
    · exact hm
    · rw [List.mem_singleton.mp hp]; exact hc
  have mk : ∀ {a : Addr} {d : Int} {t : Tok} {m₁ : Str → Option Value}, m₁ nm = some (.ref a) → m₁ nd = some (.int d t) → ∀ p ∈ [(nm, Value.ref a), (nd, Value.int d t)], m₁ p.1 = some p.2 := by
    intro a d t m₁ g1 g2 p hp
    rcases List.mem_cons.mp hp with rfl | hp
    · exact g1
    · rw [List.mem_singleton.mp hp]; exact g2
  have mr : ∀ {a : Addr} {d : Int} {t : Tok} {m₁ : Str → Option Value}, (∀ z, z ≠ x → z ≠ nm → z ≠ nd → stored.contains z = false → m₁ z = m₀ z) → ∀ z, z ≠ x → (∀ p ∈ [(nm, Value.ref a), (nd, Value.int d t)], z ≠ p.1) → stored.contains z = false → m₁ z = m₀ z :=
    fun g z z1 z2 z3 => g z z1 (z2 _ (.head _)) (z2 _ (.tail _ (.head _))) z3
  refine tbr_invG (news := [(a, listOf vs.toArray c), (cw, o)]) (fun i m nx => RebJ cw nm nd stored x m₀ P ((rangeKs a₀ n).take i) m nx) hh hr hsmall hsz F (fun p hp => N p (sub p hp))
    ⟨a, vs, ns, c, d, t, o, ov, rfl, hod, hac, hi, h1, h2, fun _ _ _ _ _ => rfl, by simpa using hp⟩ ?_ ?_
  · rintro i k t' m₁ nx h tk own hk hoff ⟨a', vs', ns', c', d', t'', o', ov', rfl, ho', hac', hI, g1, g2, g3, hp'⟩ F₁ N₁
    obtain ⟨hin, hke⟩ := List.getElem?_eq_some_iff.mp hk
    have hin' : i < n := by rwa [rangeKs_length] at hin
    have hkv : k = a₀ + (i : Int) := by rw [← hke]; simp [rangeKs]
    have hs : (rangeKs a₀ n).take (i + 1) = (rangeKs a₀ n).take i ++ [k] := by rw [List.take_add_one, hk]; rfl
    have hlen : ((rangeKs a₀ n).take i).length = i := by rw [List.length_take, rangeKs_length]; omega
    have hoff' : OwnOff own [a', cw] := by
      intro p hp b hb
      rcases List.mem_cons.mp hb with rfl | hb
      · exact hoff p hp _ (.head _)
      · rw [List.mem_singleton.mp hb]; exact hoff p hp _ (.tail _ (.head _))
    have up : ∀ s₂, InvEndG h₀ env.locals (RebJ cw nm nd stored x m₀ P ((rangeKs a₀ n).take i ++ [k])) own { s with heap := h, toks := tk } s₂ →
        TbEnd h₀ env.locals (RebJ cw nm nd stored x m₀ P ((rangeKs a₀ n).take (i + 1))) own { s with heap := h, toks := tk } s₂ := by
      rintro s₂ ⟨h₂, tk₂, m₂, n₂, nx₂, e, F₂, N₂, hn₂, hw₂, ha₂, hJ₂⟩
      exact ⟨h₂, tk₂, m₂, n₂, nx₂, e, F₂, N₂, hn₂, hw₂, fun p hp q hq => ha₂ p hp q.1 (List.mem_map.mpr ⟨q, hq, rfl⟩), hs ▸ hJ₂⟩
    refine wpAny_mono (turn a' vs' ns' c' d' t'' o' ov' _ k t' m₁ h tk own (by rw [hlen]; exact hkv) (by rw [hlen]; exact hin') hoff' hac' ho' hI hp' (kst_fr (mk g1 g2) (mr g3) F₁) N₁) (fun f s₂ q => ?_) fun _ _ e => e
    cases f with
    | ret v => exact q
    | brk => exact q
    | next => exact up s₂ q
    | cont => exact up s₂ q
  · rintro m₁ nx h tk ⟨a', vs', ns', c', d', t'', o', ov', rfl, ho', hac', hI, g1, g2, g3, hp'⟩ F₁ N₁
    rw [List.take_of_length_le (Nat.le_of_eq (rangeKs_length _ _))] at hp'
    exact done a' vs' ns' c' d' t'' o' ov' m₁ h tk hac' ho' hI hp' (kst_frOut (mk g1 g2) (mr g3) F₁) N₁

theorem reb_end {cw : Addr} {nm nd : Str} {stored : List Str} {m₀ : Str → Option Value} {P : List Int → List Int → Int → Prop} {pre : List Int} {L : Addr} {m' : Str → Option Value} {own news' : List (Addr × Obj)} {s₁ : Shared} {h' : Heap} {tk : Nat}
    {a : Addr} {vs : List Value} {ns : List Int} {c : Nat} {d : Int} {t : Tok} {o : Obj} {ov : Option Value}
    (F : Fr h₀ L h' m') (N : News h₀ L h' news') (h1 : m' nm = some (.ref a)) (h2 : m' nd = some (.int d t)) (hm : (a, listOf vs.toArray c) ∈ news') (hc : (cw, o) ∈ news') (hod : o.data = .cell ov) (hac : @Ne Nat a cw) (hi : IntsAre vs ns) (ho : ∀ p ∈ own, p ∈ news') (hne : ∀ p ∈ own, p.1 ≠ a) (hnc : ∀ p ∈ own, p.1 ≠ cw)
    (hr : ∀ z, z ≠ x → z ≠ nm → z ≠ nd → stored.contains z = false → m' z = m₀ z) (hp : P pre ns d) :
    InvEndG h₀ L (RebJ cw nm nd stored x m₀ P pre) own s₁ { s₁ with heap := h', toks := tk } := by
  refine ⟨h', tk, m', news', [(a, listOf vs.toArray c), (cw, o)], rfl, F, N, ?_, ho, ?_, a, vs, ns, c, d, t, o, ov, rfl, hod, hac, hi, h1, h2, hr, hp⟩
  · intro p hp
    rcases List.mem_cons.mp hp with rfl | hp
    · exact hm
    · rw [List.mem_singleton.mp hp]; exact hc
  · intro p hp b hb
    rcases List.mem_cons.mp hb with rfl | hb
    · exact hne p hp
    · rw [List.mem_singleton.mp hb]; exact hnc p hp
end


/-- the words in free blocks, said of the data -/
def freeD : List Dat → Int
  | [] => 0
  | Dat.tuple [_, Dat.int n, Dat.bool f] :: r => (if f then n else 0) + freeD r
  | _ :: r => freeD r
theorem freeD_toDat (bs : List Blk) : freeD (bs.map toDat) = freeSum bs := by
  induction bs with
  | nil => rfl
  | cons b r ih => simp only [List.map_cons, toDat, freeD, freeSum, ih]
theorem freeD_snoc (ds : List Dat) (a n : Int) (f : Bool) : freeD (ds ++ [Dat.tuple [Dat.int a, Dat.int n, Dat.bool f]]) = freeD ds + (if f then n else 0) := by
  induction ds with
  | nil => simp [freeD]
  | cons d r ih =>
    rw [List.cons_append]
    unfold freeD
    split <;> simp_all <;> omega

def FreeC {K : Frag} {hk : Heap} (_ : K.In hk) {p : Program} {loose : List Str} {mean : ExcName → Option Value} {mg mb : Str → Option Value} {ht : Heap} (_ : Top p loose mean mg mb ht) (prog : Program) (w : World) (f : Addr) : Prop :=
  ∀ (dp un : Nat) (gd : Option (List Code)) (cn : Str) (cs : Scope) (a : Addr) (ccd : Value) (cl : List (Str × Addr)) (outer : List Env) (A₀ : Around) (base h₀ : Heap) (L : Addr) (m : Str → Option Value) (news : List (Addr × Obj)) (s : Shared) (la : Addr) (vs : List Value) (c : Nat) (ns : List Int) (due : Int)
    (Q E : Value → Shared → Prop),
    Below A₀ base outer h₀ → Fr h₀ L s.heap m → K.In h₀ → News h₀ L s.heap news → Top p loose mean mg mb h₀ → cs.kind = .function → (la, listOf vs.toArray c) ∈ news → IntsAre vs ns → BuiltS ns due → ns.length ≤ 100 → dp + 3 < recursionLimit → un + 100 < cLine →
    (∀ t h' tk', Fr h₀ L h' m → News h₀ L h' news → Q (.int due t) { s with heap := h', toks := tk' }) →
    wpAny (model prog w) (ktrTop dp un gd cn cs L a ccd cl outer) (call (.ref f) [.ref la]) Q E s

section
variable {prog : Program} {w : World} {A : Around} {E : Value → Shared → Prop} {s : Shared} {h₀ : Heap} {L l : Addr} {news L9 : List (Addr × Obj)} {vs : List Value} {ns : List Int} {c : Nat} {Q : Value → Shared → Prop}
theorem c_list (N : News h₀ L s.heap news) (hm : (l, listOf vs.toArray c) ∈ L9) (hs : ∀ p ∈ L9, p ∈ news) : s.heap.IsList l vs.toArray := News.isList N (hs _ hm)
theorem c_len (N : News h₀ L s.heap news) (hm : (l, listOf vs.toArray c) ∈ L9) (hs : ∀ p ∈ L9, p ∈ news) (hi : IntsAre vs ns) (hb : ns.length ≤ 100)
    (h : Q (.int (ns.length : Int) (s.toks + 1)) { s with toks := s.toks + 1 + 1 }) : wpAny (model prog w) A (call (.builtin "len") [.ref l]) Q E s := by
  have hl := c_list N hm hs
  have e : vs.toArray.size = ns.length := by rw [List.size_toArray, hi.length]
  exact len_list hl (by rw [e]; omega) (by rw [e]; exact h)
end
theorem fr_yes {pre : List Dat} {a n t : Int} {f : Bool} (h : t = freeD pre) (hf : f = true) : t + n = freeD (pre ++ [Dat.tuple [Dat.int a, Dat.int n, Dat.bool f]]) := by
  rw [freeD_snoc, hf, h]; rfl
theorem fr_no {pre : List Dat} {a n t : Int} {f : Bool} (h : t = freeD pre) (hf : f = false) : t = freeD (pre ++ [Dat.tuple [Dat.int a, Dat.int n, Dat.bool f]]) := by
  rw [freeD_snoc, hf, h]; simp
theorem t_obj {ns pre : List Int} {d i b : Int} {f : Int → Int} (h : BuiltS ns d) (hl : ns.length ≤ 8 * pre.length) :
    BuiltS (ns ++ [Int.fmod b 8 + 1 - 1] ++ List.map f (rangeKs 0 (Int.fmod b 8 + 1 - 1 - 0).toNat)) d ∧ (ns ++ [Int.fmod b 8 + 1 - 1] ++ List.map f (rangeKs 0 (Int.fmod b 8 + 1 - 1 - 0).toNat)).length ≤ 8 * (pre ++ [i]).length := by
  have h1 := fmod_lo b (n := 8) (by decide)
  have h2 := fmod_hi b (n := 8) (by decide)
  refine ⟨builtS_obj h (by omega) (by rw [List.length_map, rangeKs_length]; omega), ?_⟩
  simp only [List.length_append, List.length_map, rangeKs_length, List.length_cons, List.length_nil]; omega
theorem t_free {ns pre : List Int} {d i b x : Int} (h : BuiltS ns d) (hl : ns.length ≤ 8 * pre.length) :
    BuiltS (ns ++ [-(Int.fmod b 8 + 1)] ++ (List.replicate (Int.fmod b 8 + 1 - 1).toNat [x]).flatten) (d + (Int.fmod b 8 + 1)) ∧ (ns ++ [-(Int.fmod b 8 + 1)] ++ (List.replicate (Int.fmod b 8 + 1 - 1).toNat [x]).flatten).length ≤ 8 * (pre ++ [i]).length := by
  have h1 := fmod_lo b (n := 8) (by decide)
  have h2 := fmod_hi b (n := 8) (by decide)
  rw [krep_flat]
  refine ⟨builtS_free h (by omega) (by rw [List.length_replicate]; omega), ?_⟩
  simp only [List.length_append, List.length_replicate, List.length_cons, List.length_nil]; omega
theorem len_fin10 {mem : List Int} {a : Int} (h : mem.length ≤ 8 * (rangeKs 0 (Int.fmod a 6 - 0).toNat).length) : mem.length ≤ 100 := by
  rw [rangeKs_length] at h
  have h1 := fmod_hi a (n := 6) (by decide)
  omega
/-- every datum is a block's -/
theorem shaped_map (bs : List Blk) : ∀ d ∈ bs.map toDat, ∃ (a n : Int) (f : Bool), d = Dat.tuple [Dat.int a, Dat.int n, Dat.bool f] := by
  intro d hd
  obtain ⟨b, _, rfl⟩ := List.mem_map.mp hd
  exact ⟨_, _, _, rfl⟩
end Mine
open Mine

local macro_rules | `(tactic| walk_at "call builtin:len") => `(tactic| (k_here; (rename (_ + 100 < cLine) => hcu9); k_dflt (refine c_len (by k_asm) (by assumption) (by intro p9 h9; kst_mem) (by assumption) (by assumption) ?_)))
local macro_rules | `(tactic| walk_at "call ref") => `(tactic| (k_here; (rename (_ + 100 < cLine) => hcu9); (have hfn9 : ScopeKind.function = ScopeKind.function := rfl); refine wpAny_call ?_; k_dflt ktr_enter))
local macro_rules | `(tactic| walk_at "call ref") => `(tactic| k_dflt (k_extra "callfree"))
local macro_rules | `(tactic| walk_at "exec Return some") => `(tactic| k_extra "ret")
local macro_rules | `(tactic| walk_at "call type:range") => `(tactic| (k_here; (rename Fr _ _ _ _ => F'); (rename News _ _ _ _ => N'); (with_unfolding_all refine range1_rows F' N' ?_; intro _ _ _ _ _ _ _ _ _)))
local macro_rules | `(tactic| walk_at "eval ListComp") => `(tactic| (k_here; k_dflt (refine LCg.ListComp_U (F₀ := by k_asm) (by with_unfolding_all rfl) (by decide) (by rfl) (by decide) (by rfl) ?_)))
local macro_rules | `(tactic| walk_at "InvEndN") => `(tactic| k_dflt kst_close)
local macro_rules | `(tactic| walk_at "InvEndG") => `(tactic| first | k_dflt kd_close | k_dflt (k_extra "rebend"))
local macro_rules | `(tactic| walk_at "pyIter ref") => `(tactic| k_dflt (k_extra "pyIter ref"))
local macro_rules | `(tactic| walk_at "exec For Name Call cons nil") => `(tactic| (k_here; (rename Fr _ _ _ _ => lF'); (with_unfolding_all refine' For_invVF lF' ?k1 ?k2 ?_; (case k1 => exact rfl); (case k2 => exact rfl); k_whole)))

set_option maxHeartbeats 16000000 in
theorem PySem.Challenge.cw_k19_0010_holds : PySem.Challenge.rw_k19_0010.Holds := by
  w_on
  o_law
  k_head
  (case hw => w_witness2)
  k_go0
  have Ct : FreeC ‹Frag.In _ _› ‹Top _ _ _ _ _ _› PySem.Challenge.pw_k19_0010 ‹World› (ktn_at% "free_words") := by
    unfold FreeC
    intro dp un gd cn cs a ccd cl outer A₀ base h₀ L m news s la vs c ns due Q E B F X N T hk hm hI hB hln hd hu hret
    obtain ⟨bs, hT, hdue⟩ := hB
    subst hdue
    k_with "pyIter ref" => (k_of "j" => k_dat (fun pre blocks at_ => ScanD ns bs pre.length blocks at_ ∧ blocks.length ≤ pre.length) "blocks*" "at")
    k_with "pyIter ref" => (k_of "b" => (have hsc := scan_fin (by assumption) (by (simp only [rangeKs_length]; omega))); (have hsh := shaped_map bs); (rw [← hsc] at hsh); k_dat (fun pre total => total = freeD pre) "total")
    k_with "state" => first
      | exact st_start (by assumption)
      | exact st_miss (by assumption) (by assumption) (by omega) (by omega)
      | exact st_hit (by assumption) (by assumption) (kEq.trans (Int.zero_add _)) (by omega) (by omega) (width_nn (by omega)) rfl
      | exact st_hit (by assumption) (by assumption) (kEq.trans (Int.zero_add _)) (by omega) (by omega) (width_ng (by omega)) rfl
      | exact fr_yes kInv (by assumption)
      | exact fr_no kInv (by assumption)
    k_with "ret" => (exfalso; (have hz := st_no (by assumption) (kEq.trans (Int.zero_add _)) (by omega) (by omega)); first | (rw [← width_nn (by omega)] at hz; omega) | (rw [← width_ng (by omega)] at hz; omega))
    refine wpAny_call ?_
    k_dflt ktr_enter
    k_steps
    rw [kInv, freeD_toDat]
    exact hret _ _ _ (by assumption) (cb_drop (by assumption) (fun p hp => .tail _ (List.mem_append_left _ (List.mem_append_left _ hp))))
  unfold FreeC at Ct
  k_with_none
  k_with "pyIter ref" => (k_of "i" => (with_reducible show wpAny _ _ (pyIter (Value.ref _)) (fun it s₂ => LoopAtV _ _ _ _ _ _ _ _ _ it s₂) _ _); k_here; (rename Fr _ _ _ _ => lF'); (rename News _ _ _ _ => lN'); (rename IsRange _ _ _ _ _ _ _ _ => rgX); (try k_fmods); (with_unfolding_all refine' reb_range (vs := []) (ns := []) (c := 0) ?cw (Str.ofString "mem") (Str.ofString "due") [Str.ofString "c", Str.ofString "w", Str.ofString "size"] (fun pre mem due => BuiltS mem due ∧ mem.length ≤ 8 * pre.length) (by rfl) rgX (by first | exact small_one (by omega) (by omega) (by omega) (by omega) | exact small_one (by l_bnd) (by l_bnd) (by l_bnd) (by l_bnd)) (by first | exact rangeSize_nat _ _ | rfl) lF' lN' ?km ?kc ?kod ?kac .nil ?k1 ?k2 ?kp ?turn ?done); (case k1 => with_unfolding_all rfl); (case k2 => with_unfolding_all rfl); (case km => with_unfolding_all k_mem); (case kod => assumption); (case kc => with_unfolding_all k_mem); (case kac => (refine neN ?_; omega)); (case kp => exact ⟨builtS_nil, Nat.le_refl _⟩); (clear lF' lN'); (all_goals (try clear lF' lN')); (rotate_left; intro a' vs' ns' c' d' t' kO kOv kU kH kTk kAc kOd kInts kInv kFr kNews; rotate_left; intro a' vs' ns' c' d' t' kO kOv kPre kN tt kU kH kTk kOwn kEq kLt kOff kAc kOd kInts kInv kFr kNews); (all_goals ((obtain ⟨kBu, kLe⟩ := kInv); (have kMark1 : KstMark := kstMark); (have kMark2 : KdMark := kdMark); (have kLen := IntsAre.length kInts); (try (have kB := len_ints_list (by lay_of))); (try k_fold))))
  k_with "rebend" => ((refine' reb_end ?rF ?rN ?r1 ?r2 ?rm ?rc ?ro ?rac ?ri ?rown ?rne ?rnc ?rr ?rp); (case rF => assumption); (case rN => assumption); (case r1 => with_unfolding_all rfl); (case r2 => with_unfolding_all rfl); (case rm => k_mem); (case rc => k_mem); (case ro => assumption); (case rac => (refine neN ?_; omega)); (case ri => assumption); (case rown => (intro p9 h9; kst_mem)); (case rne => kst_allNe); (case rnc => kst_allNe); (case rr => (intro z z1 z2 z3 z4; (simp only [List.contains_cons, List.contains_nil, Bool.or_false, Bool.or_eq_false_iff, beq_eq_false_iff_ne, ne_eq] at z4); simp [z1, z2, z3, z4])); (case rp => first | exact t_obj kBu kLe | exact t_free kBu kLe))
  k_with "callfree" => ((refine' Ct _ _ _ _ _ _ _ _ _ _ _ _ _ _ _ _ _ _ _ _ _ _ _ ?k1 ?k2 ?k3 ?k4 ?k5 ?k6 ?k7 ?k8 ?k9 ?k10 ?k11 ?k12 ?_); (case k1 => k_asm); (case k2 => k_asm); (case k3 => k_asm); (case k4 => k_asm); (case k5 => k_asm); (case k6 => exact rfl); (case k7 => k_mem); (case k8 => assumption); (case k9 => assumption); (case k10 => exact len_fin10 (by assumption)); (case k11 => ktr_room); (case k12 => ktr_units); intro t' h' tk' F' N'; (try dsimp only); (try k_fold))
  (all_goals try k_fold)
  k_steps

