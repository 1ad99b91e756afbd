/- Plain: what Build writes, and that Walk finds it again. -/
import Derived.Test.YtnapgigemdmigaaDoorListLaw
import Derived.Test.YtnapgigemdmigaaDoorSplice
namespace Go.Proofs.YtnapgigemdmigaaDoor

/-- how a list of pages stands from 'put' on: a page's last number, where more is needed, is the next page's place -/
def chainFrom : Int → List Int → List Int
  | _, [] => []
  | _, [x] => [x]
  | put, x :: y :: t => if put % 64 = 56 then (put + 8) :: x :: chainFrom (put + 16) (y :: t) else x :: chainFrom (put + 8) (y :: t)
def segsOf : List Int → Int → List (Int × Int)
  | [], _ => []
  | x :: t, left => (x, min 64 left) :: segsOf t (left - min 64 left)
def NumsAt (bs : List Int) (at_ : Int) (nums : List Int) : Prop := ∀ i, i < nums.length → numRd bs (at_ + 8 * i) = some (nums.getD i 0)
def fitAll (L : Nat) : List Int → Int → Prop
  | [], _ => True
  | x :: t, left => memFits L x (min 64 left) = true ∧ fitAll L t (left - min 64 left)

theorem NumsAt.tail {bs : List Int} {at_ x : Int} {t : List Int} (h : NumsAt bs at_ (x :: t)) : numRd bs at_ = some x ∧ NumsAt bs (at_ + 8) t := by
  refine ⟨by simpa using h 0 (by simp), fun i hi => ?_⟩
  have := h (i + 1) (by simpa using hi)
  rw [show at_ + 8 * ((i + 1 : Nat) : Int) = at_ + 8 + 8 * (i : Int) by omega] at this
  simpa using this

theorem listRun_nil (bs : List Int) (f : Nat) (at_ : Int) (segs : List (Int × Int)) : listRun bs f at_ 0 segs = (0, segs) := by
  cases f <;> simp [listRun]

theorem listRun_page (bs : List Int) (f : Nat) (at_ left x : Int) (segs : List (Int × Int)) (hl : 0 < left) (hn : numRd bs at_ = some x) (hp : pageOk x = true) (hm : ¬ (at_ % 64 = 56 ∧ 64 < left)) (hf : memFits bs.length x (min 64 left) = true) :
    listRun bs (f + 1) at_ left segs = listRun bs f (at_ + 8) (left - min 64 left) (segs ++ [(x, min 64 left)]) := by
  rw [listRun]
  rw [if_neg (by omega), hn]
  simp only [hp, hf, if_true]
  rw [if_neg (by simp), if_neg hm]
theorem listRun_link (bs : List Int) (f : Nat) (at_ left x : Int) (segs : List (Int × Int)) (hn : numRd bs at_ = some x) (hp : pageOk x = true) (hm : at_ % 64 = 56 ∧ 64 < left) :
    listRun bs (f + 1) at_ left segs = listRun bs f x left segs := by
  rw [listRun]
  rw [if_neg (by omega), hn]
  simp only [hp]
  rw [if_neg (by simp), if_pos hm]

theorem listRun_chain (bs : List Int) : ∀ (R : List Int) (at_ left : Int) (f : Nat) (segs : List (Int × Int)), 0 ≤ at_ → at_ % 8 = 0 → 0 ≤ left → (R.length : Int) = (left + 63) / 64 → (∀ x ∈ R, pageOk x = true) → fitAll bs.length R left →
    NumsAt bs at_ (chainFrom at_ R) → listMost at_ left ≤ f → listRun bs f at_ left segs = (0, segs ++ segsOf R left) := by
  intro R
  induction R with
  | nil =>
    intro at_ left f segs h0 h8 hl hlen _ _ _ _
    simp only [List.length_nil] at hlen
    obtain rfl : left = 0 := by omega
    rw [listRun_nil]; simp [segsOf]
  | cons x t ih =>
    intro at_ left f segs h0 h8 hl hlen hp hfit hnum hf
    simp only [List.length_cons] at hlen
    have hl0 : 0 < left := by omega
    have hpx := hp x (List.mem_cons_self ..)
    have hpt : ∀ y ∈ t, pageOk y = true := fun y hy => hp y (List.mem_cons_of_mem _ hy)
    obtain ⟨hf1, hf2⟩ := hfit
    unfold listMost at hf
    cases t with
    | nil =>
      simp only [List.length_nil] at hlen
      have hle : left ≤ 64 := by omega
      have hmin : min 64 left = left := by omega
      obtain ⟨g, rfl⟩ : ∃ g, f = g + 1 := ⟨f - 1, by omega⟩
      have hn := (NumsAt.tail (show NumsAt bs at_ (x :: []) from hnum)).1
      rw [listRun_page bs g at_ left x segs hl0 hn hpx (by omega) hf1, hmin]
      simp only [Int.sub_self, listRun_nil, segsOf, hmin]
    | cons y t =>
      simp only [List.length_cons] at hlen
      have hgt : 64 < left := by omega
      have hmin : min 64 left = 64 := by omega
      by_cases h56 : at_ % 64 = 56
      · rw [if_pos h56] at hf
        obtain ⟨g, rfl⟩ : ∃ g, f = g + 1 + 1 := ⟨f - 2, by omega⟩
        have hnum' : NumsAt bs at_ ((at_ + 8) :: x :: chainFrom (at_ + 16) (y :: t)) := by
          have e : chainFrom at_ (x :: y :: t) = (at_ + 8) :: x :: chainFrom (at_ + 16) (y :: t) := by simp [chainFrom, h56]
          rw [e] at hnum; exact hnum
        obtain ⟨n1, hnum2⟩ := hnum'.tail
        obtain ⟨n2, hnum3⟩ := hnum2.tail
        rw [show at_ + 8 + 8 = at_ + 16 by omega] at hnum3
        rw [listRun_link bs (g + 1) at_ left (at_ + 8) segs n1 ((pageOk_iff _).2 (by omega)) ⟨h56, hgt⟩]
        rw [listRun_page bs g (at_ + 8) left x segs hl0 n2 hpx (by omega) hf1]
        rw [show at_ + 8 + 8 = at_ + 16 by omega]
        rw [ih (at_ + 16) (left - min 64 left) g _ (by omega) (by omega) (by omega) (by simp only [List.length_cons]; omega) hpt hf2 hnum3 (by
          unfold listMost
          rw [if_neg (by omega)]
          omega)]
        simp [segsOf]
      · rw [if_neg h56] at hf
        obtain ⟨g, rfl⟩ : ∃ g, f = g + 1 := ⟨f - 1, by omega⟩
        have hnum' : NumsAt bs at_ (x :: chainFrom (at_ + 8) (y :: t)) := by
          have e : chainFrom at_ (x :: y :: t) = x :: chainFrom (at_ + 8) (y :: t) := by simp [chainFrom, h56]
          rw [e] at hnum; exact hnum
        obtain ⟨n1, hnum2⟩ := hnum'.tail
        rw [listRun_page bs g at_ left x segs hl0 n1 hpx (by omega) hf1]
        rw [ih (at_ + 8) (left - min 64 left) g _ (by omega) (by omega) (by omega) (by simp only [List.length_cons]; omega) hpt hf2 hnum2 (by
          unfold listMost
          split <;> omega)]
        simp [segsOf]

/-- the digits of numbers, one behind the other -/
def digs (nums : List Int) : List Int := nums.flatMap (leDig 8)
theorem digs_length (nums : List Int) : (digs nums).length = 8 * nums.length := by
  induction nums with
  | nil => rfl
  | cons x t ih =>
    have e : digs (x :: t) = leDig 8 x ++ digs t := rfl
    rw [e, List.length_append, leDig_length, ih]; simp; omega
theorem digs_part (nums : List Int) (i : Nat) (h : i < nums.length) : ((digs nums).drop (8 * i)).take 8 = leDig 8 (nums.getD i 0) := by
  induction nums generalizing i with
  | nil => simp at h
  | cons x t ih =>
    have e : digs (x :: t) = leDig 8 x ++ digs t := rfl
    rw [e]
    cases i with
    | zero =>
      simp only [Nat.mul_zero, List.drop_zero]
      rw [List.take_append_of_le_length (by rw [leDig_length]; omega), List.take_of_length_le (by rw [leDig_length]; omega)]
      rfl
    | succ i =>
      have h' : i < t.length := by simpa using h
      have hd : (leDig 8 x ++ digs t).drop (8 * (i + 1)) = (digs t).drop (8 * i) := by
        rw [List.drop_append, leDig_length, List.drop_of_length_le (by rw [leDig_length]; omega)]
        simp only [List.nil_append]
        congr 1
      rw [hd, ih i h']
      simp
theorem splice_part (bs cs : List Int) (p i n : Nat) (hp : p + cs.length ≤ bs.length) (hi : i + n ≤ cs.length) : ((splice bs p cs).drop (p + i)).take n = (cs.drop i).take n := by
  unfold splice
  have e : (bs.take p).length = p := by simp; omega
  rw [List.drop_append, e, show p + i - p = i by omega, List.drop_of_length_le (by omega), List.nil_append]
  rw [List.drop_append_of_le_length (by omega), List.take_append_of_le_length (by simp; omega)]
theorem splice_more (bs cs ds : List Int) (p : Nat) (hp : p + cs.length + ds.length ≤ bs.length) : splice (splice bs p cs) (p + cs.length) ds = splice bs p (cs ++ ds) := by
  unfold splice
  have e : (bs.take p).length = p := by simp; omega
  rw [← List.append_assoc (bs.take p) cs, List.take_append_of_le_length (by simp; omega), List.take_of_length_le (by simp; omega)]
  have e2 : (bs.take p ++ cs).length = p + cs.length := by simp; omega
  rw [List.drop_append, e2, List.drop_of_length_le (by omega), List.nil_append, List.drop_drop]
  simp only [List.length_append, List.append_assoc]
  congr 4
  omega

theorem nums_written (bs nums : List Int) (p : Nat) (hfit : p + 8 * nums.length ≤ bs.length) (hr : ∀ x ∈ nums, 0 ≤ x ∧ x ≤ 4611686018427387904) : NumsAt (splice bs p (digs nums)) (p : Int) nums := by
  intro i hi
  have hl := digs_length nums
  have hsl : (splice bs p (digs nums)).length = bs.length := length_splice _ _ _ (by omega)
  have hx := hr (nums.getD i 0) (by simp [List.getD, hi])
  have e : ((splice bs p (digs nums)).drop ((p : Int) + 8 * (i : Int)).toNat).take 8 = leDig 8 (nums.getD i 0) := by
    rw [show ((p : Int) + 8 * (i : Int)).toNat = p + 8 * i by omega, splice_part bs (digs nums) p (8 * i) 8 (by omega) (by omega), digs_part nums i hi]
  have hd : leNum (leDig 8 (nums.getD i 0)) = nums.getD i 0 := leNum_dig 8 _ hx.1 (by have : (256 : Int) ^ 8 = 18446744073709551616 := rfl; omega)
  unfold numRd
  rw [e, hd, hsl]
  have h1 : memFits bs.length ((p : Int) + 8 * (i : Int)) 8 = true := (memFits_iff _ _ _).2 (by omega)
  have h2 : numOk (leDig 8 (nums.getD i 0)) = true := by unfold numOk; rw [hd]; exact decide_eq_true hx.2
  rw [h1, h2]; rfl

/-- what Build tells: the two numbers, the memory behind it, an error's number -/
structure Built where
  u : Int
  v : Int
  bs : List Int
  e : Int
def listNums (at_ : Int) (pages : List Int) : List Int := if 2 < pages.length then chainFrom at_ pages.tail else []
def fitPages (L : Nat) (pages : List Int) (offset long : Int) : Bool :=
  match pages with
  | [] => true
  | x :: t => memFits L (x + offset) (min (64 - offset) long) && go t (long - min (64 - offset) long)
where go : List Int → Int → Bool
  | [], _ => true
  | x :: t, left => memFits L x (min 64 left) && go t (left - min 64 left)
theorem fitAll_go (L : Nat) : ∀ (t : List Int) (left : Int), fitPages.go L t left = true → fitAll L t left := by
  intro t
  induction t with
  | nil => intro left _; trivial
  | cons x t ih => intro left h; rw [fitPages.go, Bool.and_eq_true] at h; exact ⟨h.1, ih _ h.2⟩
def buildRes (bs : List Int) (at_ : Int) (pages : List Int) (offset long : Int) : Built :=
  if long < 1 ∨ 2048 < long ∨ offset < 0 ∨ 60 < offset then ⟨0, 0, bs, 1⟩ else
  if offset % 4 ≠ 0 ∨ (pages.length : Int) ≠ (offset + long + 63) / 64 then ⟨0, 0, bs, 2⟩ else
  if pages.all pageOk = false then ⟨0, 0, bs, 2⟩ else
  if 2 < pages.length ∧ pageOk at_ = false then ⟨0, 0, bs, 2⟩ else
  if fitPages bs.length pages offset long = false then ⟨0, 0, bs, 1⟩ else
  if 2 < pages.length ∧ memFits bs.length at_ (8 * (listNums at_ pages).length) = false then ⟨0, 0, bs, 1⟩ else
  ⟨pages.getD 0 0 + offset, if pages.length = 1 then 0 else if pages.length = 2 then pages.getD 1 0 else at_, splice bs at_.toNat (digs (listNums at_ pages)), 0⟩

theorem chain_small (L : Nat) (hL : L ≤ 16384) : ∀ (n : Nat) (pages : List Int), pages.length ≤ n → ∀ at_ : Int, 0 ≤ at_ → at_ + 8 * (chainFrom at_ pages).length ≤ L → (∀ x ∈ pages, 0 ≤ x ∧ x ≤ L) → ∀ y ∈ chainFrom at_ pages, 0 ≤ y ∧ y ≤ 4611686018427387904 := by
  intro n
  induction n with
  | zero => intro pages hn at_ _ _ _; cases pages with
    | nil => simp [chainFrom]
    | cons => simp at hn
  | succ n ih =>
    intro pages hn at_ h0 hfit hp y hy
    match pages, hn, hfit, hp, hy with
    | [], _, _, _, hy => simp [chainFrom] at hy
    | [x], _, _, hp, hy =>
      simp [chainFrom] at hy
      have := hp x (by simp); omega
    | x :: z :: t, hn, hfit, hp, hy =>
      have hx := hp x (by simp)
      rw [chainFrom] at hfit hy
      split at hy
      · next h56 =>
        rw [if_pos h56] at hfit
        simp only [List.length_cons] at hfit hn
        simp only [List.mem_cons] at hy
        rcases hy with rfl | rfl | hy
        · omega
        · omega
        · exact ih (z :: t) (by simp only [List.length_cons]; omega) (at_ + 16) (by omega) (by omega) (fun q hq => hp q (List.mem_cons_of_mem _ hq)) y hy
      · next h56 =>
        rw [if_neg h56] at hfit
        simp only [List.length_cons] at hfit hn
        simp only [List.mem_cons] at hy
        rcases hy with rfl | hy
        · omega
        · exact ih (z :: t) (by simp only [List.length_cons]; omega) (at_ + 8) (by omega) (by omega) (fun q hq => hp q (List.mem_cons_of_mem _ hq)) y hy

theorem fitAll_mem (L : Nat) : ∀ (t : List Int) (left : Int), fitAll L t left → ∀ x ∈ t, 0 ≤ x ∧ x ≤ L := by
  intro t
  induction t with
  | nil => intro _ _ x hx; cases hx
  | cons a t ih =>
    intro left h x hx
    rcases List.mem_cons.1 hx with rfl | hx
    · have := (memFits_iff _ _ _).1 h.1; omega
    · exact ih _ h.2 x hx

/-- what is built is walked: just these pages -/
theorem walk_built (bs : List Int) (hL : bs.length ≤ 16384) (at_ : Int) (pages : List Int) (offset long : Int) (h : (buildRes bs at_ pages offset long).e = 0) :
    1 ≤ long ∧ long ≤ 2048 ∧ 0 ≤ offset ∧ offset ≤ 60 ∧ (buildRes bs at_ pages offset long).bs.length = bs.length ∧
    ∃ x t, pages = x :: t ∧ fitPages bs.length pages offset long = true ∧ walkRes (buildRes bs at_ pages offset long).bs (buildRes bs at_ pages offset long).u (buildRes bs at_ pages offset long).v long = (0, (x + offset, min (64 - offset) long) :: segsOf t (long - min (64 - offset) long)) := by
  unfold buildRes at h ⊢
  split at h; · cases h
  split at h; · cases h
  split at h; · cases h
  split at h; · cases h
  split at h; · cases h
  split at h; · cases h
  next h1 h2 h3 h4 h5 h6 =>
  rw [if_neg h1, if_neg h2, if_neg h3, if_neg h4, if_neg h5, if_neg h6]
  have hlen : (pages.length : Int) = (offset + long + 63) / 64 := by omega
  have hall : ∀ x ∈ pages, pageOk x = true := by simpa using h3
  have hfit : fitPages bs.length pages offset long = true := by simpa using h5
  obtain ⟨x, t, rfl⟩ : ∃ x t, pages = x :: t := by
    cases pages with
    | nil => simp at hlen; omega
    | cons x t => exact ⟨x, t, rfl⟩
  have hf2 := hfit
  rw [fitPages, Bool.and_eq_true] at hf2
  have hfa := fitAll_go _ _ _ hf2.2
  have hx := (pageOk_iff x).1 (hall x (List.mem_cons_self ..))
  simp only [List.length_cons] at hlen h4 h6
  have hf1 := hf2.1
  have hmod : (x + offset) % 64 = offset := by omega
  have hspl : (splice bs at_.toNat (digs (listNums at_ (x :: t)))).length = bs.length := by
    by_cases h2' : 2 < t.length + 1
    · have := (memFits_iff _ _ _).1 (by simpa using fun q => h6 ⟨h2', q⟩ : memFits bs.length at_ (8 * (listNums at_ (x :: t)).length) = true)
      refine length_splice _ _ _ ?_
      rw [digs_length]; omega
    · have e : listNums at_ (x :: t) = [] := by unfold listNums; rw [if_neg (by simpa using h2')]
      rw [e]; simp [splice, digs]
  refine ⟨by omega, by omega, by omega, by omega, hspl, x, t, rfl, hfit, ?_⟩
  unfold walkRes
  simp only [List.getD_cons_zero, hmod]
  rw [if_neg (by omega), if_neg (by omega), if_neg (by omega), hspl, if_neg (by rw [hf1]; simp)]
  generalize hn : min (64 - offset) long = n at *
  by_cases hl1 : t.length = 0
  · obtain rfl : t = [] := List.eq_nil_of_length_eq_zero hl1
    simp only [List.length_nil] at hlen
    rw [if_pos (by omega)]
    simp [segsOf]
  · rw [if_neg (by omega)]
    by_cases hl2 : t.length = 1
    · obtain ⟨y, rfl⟩ : ∃ y, t = [y] := by
        match t, hl2 with
        | [y], _ => exact ⟨y, rfl⟩
      simp only [List.length_cons, List.length_nil] at hlen
      rw [if_pos (by omega)]
      have hy := hall y (by simp)
      have hfy := hfa.1
      rw [show min 64 (long - n) = long - n by omega] at hfy
      simp [hy, hfy, segsOf]
      omega
    · rw [if_neg (by omega)]
      have h2' : 2 < t.length + 1 := by omega
      have hat := (pageOk_iff at_).1 (by simpa using fun q => h4 ⟨h2', q⟩)
      have hnums : listNums at_ (x :: t) = chainFrom at_ t := by unfold listNums; rw [if_pos (by simpa using h2')]; rfl
      have hfn := (memFits_iff _ _ _).1 (by simpa using fun q => h6 ⟨h2', q⟩ : memFits bs.length at_ (8 * (listNums at_ (x :: t)).length) = true)
      rw [hnums] at hfn hspl ⊢
      have hv : (if (x :: t).length = 1 then (0 : Int) else if (x :: t).length = 2 then (x :: t).getD 1 0 else at_) = at_ := by
        rw [if_neg (by simpa using hl1), if_neg (by simpa using hl2)]
      rw [hv, if_neg (by omega)]
      obtain ⟨p, rfl⟩ := Int.eq_ofNat_of_zero_le (show 0 ≤ at_ by omega)
      simp only [Int.toNat_natCast] at hspl ⊢
      have hN := nums_written bs (chainFrom (p : Int) t) p (by omega) (chain_small bs.length hL t.length t (Nat.le_refl _) p (by omega) (by omega) (fitAll_mem _ _ _ hfa))
      rw [listRun_chain _ t p (long - n) _ _ (by omega) (by omega) (by omega) (by omega) (fun y hy => hall y (List.mem_cons_of_mem _ hy)) (by rw [hspl]; exact hfa) hN (Nat.le_refl _)]
      simp
end Go.Proofs.YtnapgigemdmigaaDoor
