import PyProof.Rows.All
import Wide.All
import OpenK.AllK
import Wide.FinOn
import PySem.Challenge.RW_k19_0008
open PySem PySem.W PyProof.Rows PySem.Calls
set_option Elab.async false
set_option maxRecDepth 100000
namespace Mine
/-- a block: where it starts, how many words, is it free -/
structure Blk where
  at_ : Int
  wid : Int
  free : Bool

/-- the words of the block whose head is h -/
def width (h : Int) : Int := if 0 ≤ h then h + 1 else -h

theorem width_pos (h : Int) : 1 ≤ width h := by
  unfold width; split <;> omega

/-- from place s on, the words m are tiled by the blocks bs -/
inductive Tiling : Int → List Int → List Blk → Prop
  | nil (s : Int) : Tiling s [] []
  | cons {s : Int} (h : Int) (rest m : List Int) {bs : List Blk} : (rest.length : Int) + 1 = width h → Tiling (s + width h) m bs →
      Tiling s (h :: (rest ++ m)) (⟨s, width h, decide (h < 0)⟩ :: bs)

theorem Tiling.append {s : Int} {m : List Int} {bs : List Blk} (h : Tiling s m bs) : ∀ {m' bs'}, Tiling (s + (m.length : Int)) m' bs' → Tiling s (m ++ m') (bs ++ bs') := by
  induction h with
  | nil s => intro m' bs' h'; simpa using h'
  | cons h rest m hw _ ih =>
    intro m' bs' h'
    rw [List.cons_append, List.append_assoc, List.cons_append]
    refine .cons h rest (m ++ m') hw (ih ?_)
    have e : ∀ s : Int, s + width h + (m.length : Int) = s + (((h :: (rest ++ m)).length : Nat) : Int) := by
      intro s; simp only [List.length_cons, List.length_append]; omega
    rw [e]; exact h'

theorem Tiling.one {s : Int} (h : Int) (rest : List Int) (hw : (rest.length : Int) + 1 = width h) : Tiling s (h :: rest) [⟨s, width h, decide (h < 0)⟩] := by
  have := Tiling.cons (s := s) h rest [] hw (.nil _)
  rwa [List.append_nil] at this

theorem Tiling.length_le {s : Int} {m : List Int} {bs : List Blk} (h : Tiling s m bs) : bs.length ≤ m.length := by
  induction h with
  | nil => simp
  | cons h rest m _ _ ih => simp only [List.length_cons, List.length_append]; omega

/-- the scan of blocks_of, just ahead of turn j: done the blocks so far, a the next head -/
def ScanAt (mem : List Int) (bs : List Blk) (j : Nat) (done : List Blk) (a : Int) : Prop :=
  ∃ todo md mt, mem = md ++ mt ∧ a = (md.length : Int) ∧ j ≤ md.length ∧ Tiling a mt todo ∧ bs = done ++ todo ∧ done.length ≤ j

theorem ScanAt.start {mem : List Int} {bs : List Blk} (h : Tiling 0 mem bs) : ScanAt mem bs 0 [] 0 :=
  ⟨bs, [], mem, rfl, rfl, Nat.le_refl _, h, rfl, Nat.le_refl _⟩

theorem ScanAt.miss {mem : List Int} {bs done : List Blk} {j : Nat} {a : Int} (h : ScanAt mem bs j done a) (hj : (j : Int) ≠ a) : ScanAt mem bs (j + 1) done a := by
  obtain ⟨todo, md, mt, e1, e2, e3, e4, e5, e6⟩ := h
  exact ⟨todo, md, mt, e1, e2, by omega, e4, e5, by omega⟩

theorem ScanAt.hit {mem : List Int} {bs done : List Blk} {j : Nat} {a : Int} (h : ScanAt mem bs j done a) (hj : (j : Int) = a) (hl : j < mem.length) :
    (j : Int) + width (mem.getD j 0) ≤ (mem.length : Int) ∧ ScanAt mem bs (j + 1) (done ++ [⟨(j : Int), width (mem.getD j 0), decide (mem.getD j 0 < 0)⟩]) ((j : Int) + width (mem.getD j 0)) := by
  obtain ⟨todo, md, mt, e1, e2, e3, e4, e5, e6⟩ := h
  have hmd : md.length = j := by omega
  cases e4 with
  | nil => subst e1; simp at hl; omega
  | @cons _ hd rest m bs' hw ht =>
    have hg : mem.getD j 0 = hd := by
      rw [e1, ← hmd, List.getD_eq_getElem?_getD, List.getElem?_append_right (Nat.le_refl _)]
      simp
    rw [hg]
    have hlen : (mem.length : Int) = (md.length : Int) + ((rest.length : Int) + 1 + (m.length : Int)) := by
      rw [e1]; simp only [List.length_append, List.length_cons]; omega
    have hp := width_pos hd
    refine ⟨by omega, bs', md ++ hd :: rest, m, ?_, ?_, ?_, ?_, ?_, ?_⟩
    · rw [e1, List.append_assoc, List.cons_append]
    · simp only [List.length_append, List.length_cons]; omega
    · simp only [List.length_append, List.length_cons]; omega
    · rw [hj]; exact ht
    · rw [e5, List.append_assoc, hj]; rfl
    · simp only [List.length_append, List.length_cons, List.length_nil]; omega

theorem ScanAt.len {mem : List Int} {bs done : List Blk} {j : Nat} {a : Int} (h : ScanAt mem bs j done a) : done.length ≤ j := by
  obtain ⟨_, _, _, _, _, _, _, _, e⟩ := h; exact e

theorem ScanAt.bounds {mem : List Int} {bs done : List Blk} {j : Nat} {a : Int} (h : ScanAt mem bs j done a) : (j : Int) ≤ a ∧ a ≤ (mem.length : Int) := by
  obtain ⟨_, md, mt, e1, e2, e3, _⟩ := h
  subst e1; simp only [List.length_append]; omega

theorem ScanAt.fin {mem : List Int} {bs done : List Blk} {a : Int} (h : ScanAt mem bs mem.length done a) : done = bs := by
  obtain ⟨todo, md, mt, e1, e2, e3, e4, e5, _⟩ := h
  have : mt = [] := by
    have : mt.length = 0 := by rw [e1] at e3; simp only [List.length_append] at e3; omega
    exact List.length_eq_zero_iff.mp this
  subst this
  cases e4 with
  | nil => rw [e5, List.append_nil]

/-- the addresses of the objects -/
def addrs (bs : List Blk) : List Int := (bs.filter fun b => !b.free).map (·.at_)
theorem addrs_append (a b : List Blk) : addrs (a ++ b) = addrs a ++ addrs b := by
  simp [addrs]
/-- the words in free blocks -/
def freeSum : List Blk → Int
  | [] => 0
  | b :: r => (if b.free then b.wid else 0) + freeSum r
theorem freeSum_append (a b : List Blk) : freeSum (a ++ b) = freeSum a + freeSum b := by
  induction a with
  | nil => simp [freeSum]
  | cons x r ih => simp only [List.cons_append, freeSum, ih]; omega

/-- what the law's loop has built so far -/
def Built (mem due : List Int) : Prop := ∃ bs, Tiling 0 mem bs ∧ due = addrs bs
def Grown (m₀ mem : List Int) : Prop := ∃ xs, mem = m₀ ++ xs

theorem built_nil : Built [] [] := ⟨[], .nil _, rfl⟩
theorem grown_nil (m : List Int) : Grown m m := ⟨[], (List.append_nil m).symm⟩
theorem grown_one {m₀ mem : List Int} (h : Grown m₀ mem) (x : Int) : Grown m₀ (mem ++ [x]) := by
  obtain ⟨xs, rfl⟩ := h; exact ⟨xs ++ [x], by rw [List.append_assoc]⟩

theorem built_obj {mem due mem' : List Int} {k : Int} (h : Built mem due) (g : Grown (mem ++ [k]) mem') (h0 : 0 ≤ k) (hl : (mem'.length : Int) = (mem.length : Int) + 1 + k) : Built mem' (due ++ [(mem.length : Int)]) := by
  obtain ⟨bs, ht, hd⟩ := h
  obtain ⟨xs, hx⟩ := g
  have hw : width k = k + 1 := by unfold width; rw [if_pos h0]
  have hxl : (xs.length : Int) + 1 = width k := by
    have e := congrArg List.length hx
    simp only [List.length_append, List.length_cons, List.length_nil] at e
    omega
  refine ⟨bs ++ [⟨0 + (mem.length : Int), width k, decide (k < 0)⟩], ?_, ?_⟩
  · have := ht.append (Tiling.one (s := 0 + (mem.length : Int)) k xs hxl)
    rw [hx, List.append_assoc]; exact this
  · rw [addrs_append, hd]
    have : decide (k < 0) = false := by simp; omega
    simp [addrs, this]

theorem built_free {mem due mem' : List Int} {h : Int} (hb : Built mem due) (g : Grown (mem ++ [h]) mem') (h0 : h < 0) (hl : (mem'.length : Int) = (mem.length : Int) + -h) : Built mem' due := by
  obtain ⟨bs, ht, hd⟩ := hb
  obtain ⟨xs, hx⟩ := g
  have hw : width h = -h := by unfold width; rw [if_neg (by omega)]
  have hxl : (xs.length : Int) + 1 = width h := by
    have e := congrArg List.length hx
    simp only [List.length_append, List.length_cons, List.length_nil] at e
    omega
  refine ⟨bs ++ [⟨0 + (mem.length : Int), width h, decide (h < 0)⟩], ?_, ?_⟩
  · have := ht.append (Tiling.one (s := 0 + (mem.length : Int)) h xs hxl)
    rw [hx, List.append_assoc]; exact this
  · rw [addrs_append, hd]
    have : decide (h < 0) = true := by simp; omega
    simp [addrs, this]

def toDat (b : Blk) : Dat := .tuple [.int b.at_, .int b.wid, .bool b.free]
/-- the scan, said of the data that the program holds -/
def ScanD (mem : List Int) (bs : List Blk) (j : Nat) (blocks : List Dat) (a : Int) : Prop :=
  ∃ done, blocks = done.map toDat ∧ ScanAt mem bs j done a

def Shaped (blocks : List Dat) : Prop := ∀ d ∈ blocks, ∃ (a n : Int) (f : Bool), d = Dat.tuple [Dat.int a, Dat.int n, Dat.bool f]

theorem scan_start {mem : List Int} {bs : List Blk} (h : Tiling 0 mem bs) : ScanD mem bs 0 [] 0 ∧ ([] : List Dat).length ≤ 0 :=
  ⟨⟨[], rfl, ScanAt.start h⟩, Nat.le_refl _⟩

theorem scan_miss {mem : List Int} {bs : List Blk} {j : Nat} {blocks : List Dat} {a k : Int} (h : ScanD mem bs j blocks a) (hl : blocks.length ≤ j) (hk : k = (j : Int)) (hn : k ≠ a) :
    ScanD mem bs (j + 1) blocks a ∧ blocks.length ≤ j + 1 := by
  obtain ⟨done, e, hs⟩ := h
  exact ⟨⟨done, e, hs.miss (by omega)⟩, by omega⟩

theorem scan_no {mem : List Int} {bs : List Blk} {j : Nat} {blocks : List Dat} {a : Int} (h : ScanD mem bs j blocks a) (hj : j < mem.length) (ha : (j : Int) = a) :
    (j : Int) + width (mem.getD j 0) ≤ (mem.length : Int) := by
  obtain ⟨done, e, hs⟩ := h
  exact (hs.hit ha hj).1

theorem scan_hit {mem : List Int} {bs : List Blk} {j : Nat} {blocks : List Dat} {a n : Int} {f : Bool} (h : ScanD mem bs j blocks a) (hl : blocks.length ≤ j) (hj : j < mem.length) (ha : (j : Int) = a) (hn : n = width (mem.getD j 0)) (hf : f = decide (mem.getD j 0 < 0)) :
    ScanD mem bs (j + 1) (blocks ++ [Dat.tuple [Dat.int (j : Int), Dat.int n, Dat.bool f]]) ((j : Int) + n) ∧ (blocks ++ [Dat.tuple [Dat.int (j : Int), Dat.int n, Dat.bool f]]).length ≤ j + 1 := by
  obtain ⟨done, e, hs⟩ := h
  have q := (hs.hit ha hj).2
  subst hn hf
  refine ⟨⟨_, ?_, q⟩, by simp only [List.length_append, List.length_cons, List.length_nil]; omega⟩
  rw [e, List.map_append]; rfl

theorem scan_fin {mem : List Int} {bs : List Blk} {j : Nat} {blocks : List Dat} {a : Int} (h : ScanD mem bs j blocks a) (hj : j = mem.length) : blocks = bs.map toDat := by
  subst hj
  obtain ⟨done, e, hs⟩ := h
  rw [e, hs.fin]

theorem st_start {ns : List Int} {bs : List Blk} (h : Tiling 0 ns bs) : ScanD ns bs ([] : List Int).length [] 0 ∧ ([] : List Dat).length ≤ ([] : List Int).length := scan_start h
theorem st_miss {ns pre : List Int} {bs : List Blk} {blocks : List Dat} {a k : Int} (h : ScanD ns bs pre.length blocks a) (hl : blocks.length ≤ pre.length) (hk : k = (pre.length : Int)) (hn : k ≠ a) :
    ScanD ns bs (pre ++ [k]).length blocks a ∧ blocks.length ≤ (pre ++ [k]).length := by
  rw [List.length_append]; exact scan_miss h hl hk hn
theorem st_no {ns pre : List Int} {bs : List Blk} {blocks : List Dat} {a k : Int} (h : ScanD ns bs pre.length blocks a) (hk : k = (pre.length : Int)) (hj : pre.length < ns.length) (ha : k = a) :
    k + width (ns.getD k.toNat 0) ≤ (ns.length : Int) := by
  have e : k.toNat = pre.length := by omega
  rw [e, hk]; exact scan_no h hj (by omega)
theorem st_hit {ns pre : List Int} {bs : List Blk} {blocks : List Dat} {a k n : Int} {f : Bool} (h : ScanD ns bs pre.length blocks a) (hl : blocks.length ≤ pre.length) (hk : k = (pre.length : Int)) (hj : pre.length < ns.length) (ha : k = a)
    (hn : n = width (ns.getD k.toNat 0)) (hf : f = decide (ns.getD k.toNat 0 < 0)) :
    ScanD ns bs (pre ++ [k]).length (blocks ++ [Dat.tuple [Dat.int k, Dat.int n, Dat.bool f]]) (k + n) ∧ (blocks ++ [Dat.tuple [Dat.int k, Dat.int n, Dat.bool f]]).length ≤ (pre ++ [k]).length := by
  have e : k.toNat = pre.length := by omega
  rw [e] at hn hf
  have := scan_hit h hl hj (by omega) hn hf
  rw [← hk] at this
  rw [List.length_append]; exact this
theorem dat_fin {ns : List Int} {bs : List Blk} {j : Nat} {blocks : List Dat} {a : Int} {L9 : List (Addr × Obj)} {vs : List Value} (h : ScanD ns bs j blocks a) (hj : j = ns.length) (hd : DatAll L9 vs blocks) : DatAll L9 vs (bs.map toDat) := scan_fin h hj ▸ hd
theorem width_nn {h : Int} (e : 0 ≤ h) : h + 1 = width h := by unfold width; rw [if_pos e]
theorem width_ng {h : Int} (e : h < 0) : -h = width h := by unfold width; rw [if_neg (by omega)]

theorem addrs_snoc (bs : List Blk) (b : Blk) : addrs (bs ++ [b]) = addrs bs ++ (if b.free then [] else [b.at_]) := by
  rw [addrs_append]; cases h : b.free <;> simp [addrs, h]

theorem datIn_blk {L9 : List (Addr × Obj)} {v : Value} {b : Blk} (h : DatIn L9 v (toDat b)) :
    ∃ (a : Addr) (t1 t2 : Tok) (n : Nat), v = .ref a ∧ (a, ({ cls := .type "tuple", data := .seq [Value.int b.at_ t1, Value.int b.wid t2, Value.bool b.free].toArray n } : Obj)) ∈ L9 := by
  unfold toDat at h
  cases h with
  | tuple hm hr =>
    cases hr with
    | cons h1 hr =>
      cases hr with
      | cons h2 hr =>
        cases hr with
        | cons h3 hr =>
          cases hr; cases h1; cases h2; cases h3
          exact ⟨_, _, _, _, rfl, hm⟩

section
variable {prog : Program} {w : World} {A : Around} {h₀ : Heap} {L : Addr} {m : Str → Option Value} {env : Env} {ct elt : Expr} {x : Str} {scope : Scope} {cl : List (Str × Addr)} {s : Shared} {S : List (Addr × Obj) → Prop} {Fin : List Value → List (Addr × Obj) → Prop} {news : List (Addr × Obj)}
theorem cot_rest {vs : List Value} {bs : List Blk} {L9 : List (Addr × Obj)} (hd : DatAll L9 vs (bs.map toDat)) (hs : ∀ p ∈ L9, p ∈ news)
    (turn : ∀ (b : Blk) (a : Addr) (t1 t2 : Tok) (n : Nat) I oI C oC D m₂ ys h tk (E' : Value → Shared → Prop), b ∈ bs → (a, ({ cls := .type "tuple", data := .seq [Value.int b.at_ t1, Value.int b.wid t2, Value.bool b.free].toArray n } : Obj)) ∈ news →
      LCg.NsObj oC m₂ → m₂ x = some (.ref a) → Fr h₀ L h m → News h₀ L h ((I, oI) :: (C, oC) :: (D, LCg.lst ys) :: news) → LCg.Off3 I C D news → ((@Ne Nat I C) ∧ (@Ne Nat I D) ∧ (@Ne Nat C D)) →
      wpAny (model prog w) A (isTrue ct (compEnvC scope cl C env) (eval ct (compEnvC scope cl C env))) (fun ok s' => if ok = true then
          wpAny (model prog w) A (eval elt (compEnvC scope cl C env)) (LCg.CompEnd h₀ L m { s with heap := h, toks := tk } I oI C oC D (LCg.lst ys) S (fun y news' => news' = news ∧ b.free = false ∧ ∃ t, y = .int b.at_ t)) E' s'
        else LCg.CompEnd h₀ L m { s with heap := h, toks := tk } I oI C oC D (LCg.lst ys) S (fun _ news' => news' = news ∧ b.free = true) Value.none s') E' { s with heap := h, toks := tk })
    (fin : ∀ ys, IntsAre ys (addrs bs) → ys.length ≤ bs.length → Fin ys news) :
    LCt.CompRestT prog w A h₀ L m env ct elt x scope cl s S (fun i v => vs.toArray[i]? = some v) Fin vs.toArray.size 0 [] news := by
  have hlen : vs.toArray.size = bs.length := by rw [List.size_toArray, hd.length, List.length_map]
  rw [hlen]
  have key : ∀ (j i : Nat) (ys : List Value), i + j = bs.length → ys.length ≤ i → IntsAre ys (addrs (bs.take i)) →
      LCt.CompRestT prog w A h₀ L m env ct elt x scope cl s S (fun i v => vs.toArray[i]? = some v) Fin j i ys news := by
    intro j
    induction j with
    | zero =>
      intro i ys hi hl hy
      have e : i = bs.length := by omega
      subst e
      rw [List.take_length] at hy
      exact LCt.CompRestT.zero (fin ys hy hl)
    | succ j ih =>
      intro i ys hi hl hy
      refine LCt.CompRestT.succ ?_
      intro v I oI C oC D m₂ h tk E' hv hC hx F N off ne
      have hi' : i < bs.length := by omega
      have hlt : i < (bs.map toDat).length := by rw [List.length_map]; exact hi'
      obtain ⟨v', hv', hD⟩ := hd.get hlt
      have ev : v' = v := by
        have hv2 : vs[i]? = some v := by simpa using hv
        rw [hv'] at hv2; exact Option.some.inj hv2
      subst ev
      rw [List.getElem_map] at hD
      obtain ⟨a, t1, t2, n, rfl, hm⟩ := datIn_blk hD
      have hs1 : bs.take (i + 1) = bs.take i ++ [bs[i]] := by rw [List.take_add_one, List.getElem?_eq_getElem hi']; rfl
      refine wpAny_mono (turn bs[i] a t1 t2 n I oI C oC D m₂ ys h tk E' (List.getElem_mem hi') (hs _ hm) hC hx F N off ne) (fun b s₂ hq => ?_) fun _ _ e => e
      cases b with
      | true =>
        simp only [if_true] at hq ⊢
        refine wpAny_mono hq (fun y s₃ hr => ?_) fun _ _ e => e
        obtain ⟨h', tk', nw, e, F', N', off', hS, hn, hf, t', hy'⟩ := hr
        rw [hn] at N' off' hS
        refine ⟨h', tk', news, e, F', N', off', hS, ?_⟩
        rw [hy']
        refine ih (i + 1) _ (by omega) (by simp only [List.length_append, List.length_cons, List.length_nil]; omega) ?_
        rw [hs1, addrs_snoc, hf]
        exact IntsAre.append hy (.cons _ t' .nil)
      | false =>
        simp only [Bool.false_eq_true, if_false] at hq ⊢
        obtain ⟨h', tk', nw, e, F', N', off', hS, hn, hf⟩ := hq
        rw [hn] at N' off' hS
        refine ⟨h', tk', news, e, F', N', off', hS, ih (i + 1) _ (by omega) (by omega) ?_⟩
        rw [hs1, addrs_snoc, hf]
        simpa using hy
  exact key bs.length 0 [] (by omega) (Nat.le_refl _) (by simp only [List.take_zero]; exact .nil)
end


def ObjC {K : Frag} {hk : Heap} (_ : K.In hk) {p : Program} {loose : List Str} {mean : ExcName → Option Value} {mg mb : Str → Option Value} {ht : Heap} (_ : Top p loose mean mg mb ht) (prog : Program) (w : World) (f : Addr) : Prop :=
  ∀ (dp un : Nat) (gd : Option (List Code)) (cn : Str) (cs : Scope) (a : Addr) (ccd : Value) (cl : List (Str × Addr)) (outer : List Env) (A₀ : Around) (base h₀ : Heap) (L : Addr) (m : Str → Option Value) (news : List (Addr × Obj)) (s : Shared) (la : Addr) (vs : List Value) (c : Nat) (ns due : List Int)
    (Q E : Value → Shared → Prop),
    Below A₀ base outer h₀ → Fr h₀ L s.heap m → K.In h₀ → News h₀ L s.heap news → Top p loose mean mg mb h₀ → cs.kind = .function → (la, listOf vs.toArray c) ∈ news → IntsAre vs ns → Built ns due → ns.length ≤ 100 → dp + 3 < recursionLimit → un + 100 < cLine →
    (∀ D us c' h' tk', Fr h₀ L h' m → News h₀ L h' ((D, listOf (List.toArray us) c') :: news) → LCg.Off1 D news → IntsAre us due → Q (.ref D) { s with heap := h', toks := tk' }) →
    wpAny (model prog w) (ktrTop dp un gd cn cs L a ccd cl outer) (call (.ref f) [.ref la]) Q E s

section
variable {prog : Program} {w : World} {A : Around} {E : Value → Shared → Prop} {s : Shared} {h₀ : Heap} {L l : Addr} {news L9 : List (Addr × Obj)} {vs : List Value} {ns : List Int} {c : Nat} {Q : Value → Shared → Prop}
theorem c_list (N : News h₀ L s.heap news) (hm : (l, listOf vs.toArray c) ∈ L9) (hs : ∀ p ∈ L9, p ∈ news) : s.heap.IsList l vs.toArray := News.isList N (hs _ hm)
theorem c_len (N : News h₀ L s.heap news) (hm : (l, listOf vs.toArray c) ∈ L9) (hs : ∀ p ∈ L9, p ∈ news) (hi : IntsAre vs ns) (hb : ns.length ≤ 100)
    (h : Q (.int (ns.length : Int) (s.toks + 1)) { s with toks := s.toks + 1 + 1 }) : wpAny (model prog w) A (call (.builtin "len") [.ref l]) Q E s := by
  have hl := c_list N hm hs
  have e : vs.toArray.size = ns.length := by rw [List.size_toArray, hi.length]
  exact len_list hl (by rw [e]; omega) (by rw [e]; exact h)
end
theorem off1_left {D : Addr} : ∀ {a b : List (Addr × Obj)}, LCg.Off1 D (a ++ b) → LCg.Off1 D a
  | [], _, _ => trivial
  | _ :: _, _, h => ⟨h.1, off1_left h.2⟩
theorem sz_fin {vs : List Value} {blocks : List Dat} {k : Nat} (h : vs.length = blocks.length) (h2 : blocks.length ≤ (rangeKs 0 k).length) (hk : k ≤ 100) : vs.toArray.size ≤ sizeLine := by
  rw [rangeKs_length] at h2
  rw [PySem.sizeLine_eq, List.size_toArray]; omega
theorem led_snoc {h₀ h : Heap} {L l : Addr} {q : Addr × Obj} {rest : List (Addr × Obj)} {vs : List Value} {k : Int} {t : Tok} {c : Nat} {ns due : List Int} (hb : Built ns due) (hi : IntsAre vs ns) (N : News h₀ L h (q :: (l, listOf (vs.toArray.push (.int k t)) c) :: rest)) : IntsAre (vs ++ [.int k t]) (ns ++ [k]) :=
  IntsAre.append hi (.cons _ _ .nil)
theorem gr_turn {m0 mem pre : List Int} {x i : Int} (g : Grown m0 mem) (h : mem.length = m0.length + pre.length) : Grown m0 (mem ++ [x]) ∧ (mem ++ [x]).length = m0.length + (pre ++ [i]).length := by
  refine ⟨grown_one g x, ?_⟩
  simp only [List.length_append, List.length_cons, List.length_nil]; omega
theorem l1_obj {mem due mem' pre : List Int} {k i d : Int} (h : Built mem due) (h5 : mem.length ≤ 5 * pre.length) (h1 : due.length ≤ pre.length) (g : Grown (mem ++ [k]) mem') (hl : mem'.length = (mem ++ [k]).length + (rangeKs 0 (k - 0).toNat).length) (h0 : 0 ≤ k) (hk : k < 5) (hd : d = (mem.length : Int)) :
    Built mem' (due ++ [d]) ∧ mem'.length ≤ 5 * (pre ++ [i]).length ∧ (due ++ [d]).length ≤ (pre ++ [i]).length := by
  rw [rangeKs_length] at hl
  simp only [List.length_append, List.length_cons, List.length_nil] at hl ⊢
  subst hd
  exact ⟨built_obj h g h0 (by omega), by omega, by omega⟩
theorem l1_free {mem due mem' pre : List Int} {k i : Int} (h : Built mem due) (h5 : mem.length ≤ 5 * pre.length) (h1 : due.length ≤ pre.length) (g : Grown (mem ++ [4 - k]) mem') (hl : mem'.length = (mem ++ [4 - k]).length + (rangeKs 0 (k - 5 - 0).toNat).length) (h0 : ¬ k < 5) (hk : k < 10) :
    Built mem' due ∧ mem'.length ≤ 5 * (pre ++ [i]).length ∧ due.length ≤ (pre ++ [i]).length := by
  rw [rangeKs_length] at hl
  simp only [List.length_append, List.length_cons, List.length_nil] at hl ⊢
  exact ⟨built_free h g (by omega) (by omega), by omega, by omega⟩
theorem len_fin {mem : List Int} {a : Int} (h : mem.length ≤ 5 * (rangeKs 0 (Int.fmod a 8 - 0).toNat).length) : mem.length ≤ 35 := by
  rw [rangeKs_length] at h
  have h1 := fmod_hi a (n := 8) (by decide)
  omega
theorem len_fin1 {mem : List Int} {a x : Int} (h : mem.length ≤ 5 * (rangeKs 0 (Int.fmod a 8 - 0).toNat).length) : (mem ++ [x]).length ≤ 100 := by
  have := len_fin h
  rw [List.length_append]
  show mem.length + 1 ≤ 100
  omega
theorem built_tail0 {mem due : List Int} {t : Int} (h : Built mem due) (h0 : t = 0) : Built (mem ++ [t]) (due ++ [(mem.length : Int)]) :=
  built_obj h (grown_nil _) (by omega) (by rw [List.length_append]; show ((mem.length + 1 : Nat) : Int) = _; omega)
theorem built_tail1 {mem due : List Int} {a : Int} (h : Built mem due) (h0 : ¬ -(Int.fmod a 2) = 0) : Built (mem ++ [-(Int.fmod a 2)]) due := by
  have h1 := fmod_hi a (n := 2) (by decide)
  have h2 := fmod_lo a (n := 2) (by decide)
  exact built_free h (grown_nil _) (by omega) (by rw [List.length_append]; show ((mem.length + 1 : Nat) : Int) = _; omega)
end Mine
open Mine

local macro_rules | `(tactic| walk_at "eval ListComp") => `(tactic| (k_here; k_dflt (refine LCt.ListComp_T (F₀ := by k_asm) (by with_unfolding_all rfl) (by decide) (by rfl) (by decide) (by rfl) ?_)))
local macro_rules | `(tactic| walk_at "call builtin:len") => `(tactic| (k_here; (rename (_ + 100 < cLine) => hcu9); k_dflt (refine c_len (by k_asm) (by assumption) (by intro p9 h9; kst_mem) (by assumption) (by assumption) ?_)))
local macro_rules | `(tactic| walk_at "call ref") => `(tactic| (k_here; (rename (_ + 100 < cLine) => hcu9); (have hfn9 : ScopeKind.function = ScopeKind.function := rfl); refine wpAny_call ?_; k_dflt ktr_enter))
local macro_rules | `(tactic| walk_at "call ref") => `(tactic| k_dflt (k_extra "callobj"))
local macro_rules | `(tactic| walk_at "exec Return some") => `(tactic| k_extra "ret")
local macro_rules | `(tactic| walk_at "CompSrcT") => `(tactic| k_extra "compsrc")
local macro_rules | `(tactic| walk_at "call type:range") => `(tactic| (k_here; (rename Fr _ _ _ _ => F'); (rename News _ _ _ _ => N'); (with_unfolding_all refine range1_rows F' N' ?_; intro _ _ _ _ _ _ _ _ _)))
local macro_rules | `(tactic| walk_at "InvEndN") => `(tactic| k_dflt kst_close)
local macro_rules | `(tactic| walk_at "InvEndG") => `(tactic| k_dflt kd_close)
local macro_rules | `(tactic| walk_at "pyIter ref") => `(tactic| k_dflt (k_extra "pyIter ref"))

set_option maxHeartbeats 16000000 in
theorem PySem.Challenge.cw_k19_0008_holds : PySem.Challenge.rw_k19_0008.Holds := by
  w_on
  o_law
  k_head
  (case hw => w_witness2)
  k_go0
  have Ct : ObjC ‹Frag.In _ _› ‹Top _ _ _ _ _ _› PySem.Challenge.pw_k19_0008 ‹World› (ktn_at% "objects_of") := by
    unfold ObjC
    intro dp un gd cn cs a ccd cl outer A₀ base h₀ L m news s la vs c ns due Q E B F X N T hk hm hI hB hln hd hu hret
    obtain ⟨bs, hT, hdue⟩ := hB
    subst hdue
    k_with "pyIter ref" => (k_of "j" => k_dat (fun pre blocks at_ => ScanD ns bs pre.length blocks at_ ∧ blocks.length ≤ pre.length) "blocks*" "at")
    k_with "state" => first
      | exact st_start (by assumption)
      | exact st_miss (by assumption) (by assumption) (by omega) (by omega)
      | exact st_hit (by assumption) (by assumption) (kEq.trans (Int.zero_add _)) (by omega) (by omega) (width_nn (by omega)) rfl
      | exact st_hit (by assumption) (by assumption) (kEq.trans (Int.zero_add _)) (by omega) (by omega) (width_ng (by omega)) rfl
    k_with "ret" => (exfalso; (have hz := st_no (by assumption) (kEq.trans (Int.zero_add _)) (by omega) (by omega)); first | (rw [← width_nn (by omega)] at hz; omega) | (rw [← width_ng (by omega)] at hz; omega))
    k_with "compsrc" => (k_dflt (refine LCt.CompSrcT.ledger (by rfl) (by k_asm) (by k_asm) (by k_mem) (sz_fin (by assumption) (by assumption) (by omega)) ?_); intro g'; k_dflt (refine cot_rest (bs := bs) (dat_fin (by assumption) (by (simp only [rangeKs_length]; omega)) (by assumption)) (by intro p9 h9; kst_mem) ?_ ?_))
    refine wpAny_call ?_
    k_dflt ktr_enter
    k_steps
    all_goals first
      | exact hret _ _ _ _ _ (by assumption) (cb_drop (by assumption) (List.forall_mem_cons.mpr ⟨.head _, fun p hp => .tail _ (.tail _ (List.mem_append_left _ hp))⟩)) (off1_left (And.right (by assumption))) (by assumption)
      | exact LCg.CompEnd.intro (by assumption) (by assumption) _ (fun _ h => h) (by assumption) (.inr ⟨_, .head _, rfl, _, rfl⟩) ⟨rfl, by assumption⟩
      | exact LCg.CompEnd.intro (by assumption) (by assumption) _ (fun _ h => h) (by assumption) (.inr ⟨_, .head _, rfl, _, rfl⟩) ⟨rfl, by assumption, _, rfl⟩
  unfold ObjC at Ct
  k_with_none
  k_with "pyIter ref" => (k_of "i" => k_state (fun pre mem due => Built mem due ∧ mem.length ≤ 5 * pre.length ∧ due.length ≤ pre.length) "mem" "due")
  k_with "pyIter ref" => (k_of "j" => (have hI9 := led_snoc (by assumption) (by assumption) (by assumption)); (with_reducible rename News _ _ _ _ => gpN); (simp only [List.push_toArray] at gpN); k_state_given ["mem!"] (fun m0 pre mem => Grown m0 mem ∧ mem.length = m0.length + pre.length) "mem")
  k_with "pyIter ref" => (k_of "a" => k_state_given ["due!"] (fun d0 pre d => d = d0) "due")
  k_with "state" => first
    | exact ⟨built_nil, Nat.le_refl _, Nat.le_refl _⟩
    | exact ⟨grown_nil _, rfl⟩
    | exact gr_turn (by assumption) (by assumption)
    | exact l1_obj (by assumption) (by assumption) (by assumption) (by assumption) (by assumption) (fmod_lo _ (by decide)) (by assumption) rfl
    | exact l1_free (by assumption) (by assumption) (by assumption) (by assumption) (by assumption) (by assumption) (fmod_hi _ (by decide))
  k_with "callobj" => ((try ((with_reducible rename News _ _ _ _ => gpN); (simp only [List.push_toArray] at gpN))); (refine' Ct _ _ _ _ _ _ _ _ _ _ _ _ _ _ _ _ _ _ _ _ _ _ _ ?k1 ?k2 ?k3 ?k4 ?k5 ?k6 ?k7 ?k8 ?k9 ?k10 ?k11 ?k12 ?_); (case k1 => k_asm); (case k2 => k_asm); (case k3 => k_asm); (case k4 => k_asm); (case k5 => k_asm); (case k6 => exact rfl); (case k7 => k_mem); (case k8 => first | assumption | (refine' IntsAre.append ?ia ?ib; (case ia => assumption); (case ib => exact IntsAre.cons _ _ IntsAre.nil))); (case k9 => first | assumption | exact built_tail0 (by assumption) (by assumption) | exact built_tail1 (by assumption) (by assumption)); (case k10 => first | exact Nat.le_trans (len_fin (by assumption)) (by decide) | exact len_fin1 (by assumption)); (case k11 => ktr_room); (case k12 => ktr_units); intro D' us' c' h' tk' F' N' o1' hI'; (try simp only [LCg.Off1, and_true] at o1'); (try dsimp only); (try k_fold))
  (all_goals try k_fold)
  k_steps

