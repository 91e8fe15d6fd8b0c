/- Part 7 of the proof. -/
import Derived.Test.YtgmphfmoonbfpaaP6
import Derived.KernelRfl
import Derived.Lib.Bytealg
set_option linter.unusedVariables false
set_option linter.unusedSimpArgs false
namespace Go.Proofs.YtgmphfmoonbfpaaMv
open Go
def hasPre (s q:List UInt8):Bool:=decide (q.length≤s.length)&&s.take q.length==q
def begins (n s:List UInt8):Bool:=n==s||hasPre n (s++[46])
def kindOf (n:List UInt8):Int:=
  if begins n [46,116,101,120,116] then 1 else if begins n [46,114,111,100,97,116,97] then 3 else if begins n [46,98,115,115] then 4 else 2
end Go.Proofs.YtgmphfmoonbfpaaMv

set_option maxRecDepth 100000
namespace Go.Proofs.YtgmphfmoonbfpaaMv
open Go
theorem w57_0 (s:List UInt8) (q:List UInt8) (hp:HL)
 (c0:(decide (((s.length:Nat):Int) ≥ ((q.length:Nat):Int)))=false) :
 Rn pg 57 [V.d (D.str s),V.d (D.str q)] (hp) (V.d (D.bool false)) (hp):=
 Rn.c (fn:=i57) (ex:=.ret) (st:=⟨[(4,V.d (D.bool false))],[]::hp⟩) (hs:=[.b false, .b false, .b false, .b false, .b false, .b false, .b false]) (cs:=[_,_,_,_,_,_,_]) (rs:=[V.d (D.bool false)]) (t:=[])
 (by kernel_rfl) (by kernel_rfl) (by kernel_rfl) (by kernel_rfl) (by kernel_rfl) (by kernel_rfl) ⟨c0,c0,c0,c0,c0,c0,c0,trivial⟩
theorem w57_1 (s:List UInt8) (q:List UInt8) (hp:HL)
 (c0:(decide (((s.length:Nat):Int) ≥ ((q.length:Nat):Int)))=true)
 (c1:q.length≤s.length) :
 Rn pg 57 [V.d (D.str s),V.d (D.str q)] (hp) (V.d (D.bool ((List.drop 0 (List.take q.length s))==q))) (hp):=
 Rn.c (fn:=i57) (ex:=.ret) (st:=⟨[(4,V.d (D.bool ((List.drop 0 (List.take q.length s))==q)))],[]::hp⟩) (hs:=[.b true, .b true, .b true, .b true, .n q.length, .b true, .b true, .b true]) (cs:=[_,_,_,_,((q.length:Nat):Int)=((q.length:Nat):Int),0≤q.length,_,_,_,_]) (rs:=[V.d (D.bool ((List.drop 0 (List.take q.length s))==q))]) (t:=[])
 (by kernel_rfl) (by kernel_rfl) (by kernel_rfl) (by kernel_rfl) (by kernel_rfl) (by kernel_rfl) ⟨c0,c0,c0,c0,rfl,Nat.zero_le _,c1,c0,c0,c0,trivial⟩
theorem w30_0 (s:List UInt8) (q:List UInt8) (hp:HL)
 (c0:Rn pg 57 [V.d (D.str s),V.d (D.str q)] ([]) (V.d (D.bool (hasPre s q))) ([])) :
 Rn pg 30 [V.d (D.str s),V.d (D.str q)] (hp) (V.d (D.bool (hasPre s q))) (hp):=
 Rn.c (fn:=i30) (ex:=.ret) (st:=⟨[(4,V.d (D.bool (hasPre s q)))],[]::hp⟩) (hs:=[.call (V.d (D.bool (hasPre s q))) ([])]) (cs:=[_]) (rs:=[V.d (D.bool (hasPre s q))]) (t:=[])
 (by kernel_rfl) (by kernel_rfl) (by kernel_rfl) (by kernel_rfl) (by kernel_rfl) (by kernel_rfl) ⟨c0,trivial⟩
theorem w33_0 (s:Sl UInt8) (hp:HL)
 (c0:(!s.nn&&(s.l.map u8c).isEmpty)=false)
 (c1:List.all (s.l.map u8c) (fun x=>x.length==1)=true)
 (c2:(List.map (fun x=>List.map C.d x) (s.l.map u8c)).length * 1≤room)
 (c3:allDs (List.map (fun x=>List.map C.d x) (s.l.map u8c))=some (s.l.map u8c)) :
 Rn pg 33 [V.d (D.sl s.nn (s.l.map u8c))] (hp) (V.d (D.sl (true || !(s.l.map u8c).isEmpty) (s.l.map u8c))) (hp):=
 Rn.c (fn:=i33) (ex:=.ret) (st:=⟨[(2,V.d (D.sl (true || !(s.l.map u8c).isEmpty) (s.l.map u8c)))],[]::hp⟩) (hs:=[.b false, .ees (s.l.map u8c)]) (cs:=[_,_,_,_]) (rs:=[V.d (D.sl (true || !(s.l.map u8c).isEmpty) (s.l.map u8c))]) (t:=[])
 (by kernel_rfl) (by kernel_rfl) (by kernel_rfl) (by kernel_rfl) (by kernel_rfl) (by kernel_rfl) ⟨c0,c1,c2,c3,trivial⟩
theorem w33_1 (s:Sl UInt8) (hp:HL)
 (c0:(!s.nn&&(s.l.map u8c).isEmpty)=true) :
 Rn pg 33 [V.d (D.sl s.nn (s.l.map u8c))] (hp) (V.d (D.sl false [])) (hp):=
 Rn.c (fn:=i33) (ex:=.ret) (st:=⟨[(2,V.d (D.sl false []))],[]::hp⟩) (hs:=[.b true]) (cs:=[_]) (rs:=[V.d (D.sl false [])]) (t:=[])
 (by kernel_rfl) (by kernel_rfl) (by kernel_rfl) (by kernel_rfl) (by kernel_rfl) (by kernel_rfl) ⟨c0,trivial⟩
end Go.Proofs.YtgmphfmoonbfpaaMv

namespace Go.Proofs.YtgmphfmoonbfpaaMv
open Go
theorem room_eq:room=140737488355328:=rfl
theorem all_len {α:Type} {f:α→List D} {n:Nat} (h:∀ x,(f x).length=n) (l:List α):List.all (l.map f) (fun x=>x.length==n)=true:=by simp [h]
theorem allDs_map:∀ (es:List (List D)),allDs (List.map (fun x=>List.map C.d x) es)=some es
  | []=>rfl
  | cs::es=>by
    have h:∀ cs:List D,allD (List.map C.d cs)=some cs:=by
      intro cs
      induction cs with
      | nil=>rfl
      | cons c cs ih=>simp [allD,ih]
    simp [allDs,h,allDs_map es]
theorem map_get {α β:Type} {f:α→β} {l:List α} {k:Nat} {x:α} (h:l[k]? = some x):(l.map f)[k]? = some (f x):=by simp [h]
theorem f57 (s q:List UInt8) (hp:HL):Rn pg 57 [.d (.str s), .d (.str q)] hp (.d (.bool (hasPre s q))) hp:=by
  by_cases h:q.length≤s.length
  · have:=w57_1 s q hp (by simp;omega) h
    simpa [hasPre,h] using this
  · have:=w57_0 s q hp (by simp;omega)
    simpa [hasPre,h] using this
theorem f30 (s q:List UInt8) (hp:HL):Rn pg 30 [.d (.str s), .d (.str q)] hp (.d (.bool (hasPre s q))) hp:=w30_0 s q hp (f57 s q [])
def Sl.cl {α:Type} (s:Sl α):Sl α:=⟨s.nn || !s.l.isEmpty,s.l⟩
theorem f33 (s:Sl UInt8) (hp:HL) (hl:s.l.length<2 ^ 30):Rn pg 33 [.d (.sl s.nn (s.l.map u8c))] hp (.d (.sl s.cl.nn (s.cl.l.map u8c))) hp:=by
  cases h:!s.nn&&(s.l.map u8c).isEmpty with
  | false=>
    have:=w33_0 s hp h (all_len (f:=u8c) (fun _=>rfl) _) (by simp [room_eq];omega) (allDs_map _)
    have e:(true || !(s.l.map u8c).isEmpty)=s.cl.nn:=by
      simp only [Sl.cl]
      revert h;cases s.nn <;> simp
    rw [e] at this
    exact this
  | true=>
    have:=w33_1 s hp h
    simp only [Bool.and_eq_true,Bool.not_eq_true',List.isEmpty_iff,List.map_eq_nil_iff] at h
    simpa [Sl.cl,h.1,h.2] using this
end Go.Proofs.YtgmphfmoonbfpaaMv

namespace Go.Proofs.YtgmphfmoonbfpaaMv
section
variable {α:Type}
def sw (f:Nat→α) (i j:Nat):Nat→α:=fun k=>if k=i then f j else if k=j then f i else f k
def SP (a b:Nat) (f f':Nat→α):Prop:=∃ σ τ:Nat→Nat,(∀ k,τ (σ k)=k)∧(∀ k,σ (τ k)=k)∧(∀ k,¬(a≤k∧k<b)→σ k=k) ∧ ∀ k,f' k=f (σ k)
theorem SP.refl (a b:Nat) (f:Nat→α):SP a b f f:=⟨id,id,fun _=>rfl,fun _=>rfl,fun _ _=>rfl,fun _=>rfl⟩
theorem SP.trans {a b:Nat} {f g h:Nat→α} (x:SP a b f g) (y:SP a b g h):SP a b f h:=by
  obtain ⟨σ,τ,h1,h2,h3,h4⟩:=x
  obtain ⟨σ',τ',k1,k2,k3,k4⟩:=y
  exact ⟨fun k=>σ (σ' k),fun k=>τ' (τ k),fun k=>by simp [h1,k1],fun k=>by simp [k2,h2],fun k hk=>by simp only [k3 k hk,h3 k hk],fun k=>by rw [k4,h4]⟩
theorem SP.wide {a b a' b':Nat} {f g:Nat→α} (x:SP a b f g) (ha:a'≤a) (hb:b≤b'):SP a' b' f g:=by
  obtain ⟨σ,τ,h1,h2,h3,h4⟩:=x
  exact ⟨σ,τ,h1,h2,fun k hk=>h3 k (by omega),h4⟩
theorem SP.out {a b:Nat} {f g:Nat→α} (x:SP a b f g) {k:Nat} (hk:¬(a≤k∧k<b)):g k=f k:=by
  obtain ⟨σ,τ,h1,h2,h3,h4⟩:=x
  rw [h4,h3 k hk]
theorem SP.at {a b:Nat} {f g:Nat→α} (x:SP a b f g) {k:Nat} (h0:a≤k) (h1:k<b):∃ j,a≤j∧j<b∧g k=f j:=by
  obtain ⟨σ,τ,h1',h2,h3,h4⟩:=x
  refine ⟨σ k, ?_, ?_,h4 k⟩
  · apply Decidable.byContradiction
    intro hn
    have:=h3 (σ k) (by omega)
    have:=congrArg τ this
    rw [h1',h1'] at this
    omega
  · apply Decidable.byContradiction
    intro hn
    have:=h3 (σ k) (by omega)
    have:=congrArg τ this
    rw [h1',h1'] at this
    omega
theorem SP.sw (f:Nat→α) {a b i j:Nat} (hi:a≤i∧i<b) (hj:a≤j∧j<b):SP a b f (sw f i j):=by
  refine ⟨fun k=>if k=i then j else if k=j then i else k,fun k=>if k=i then j else if k=j then i else k,fun k=>?_,fun k=>?_,fun k hk=>?_,fun k=>?_⟩
  · dsimp only;repeat' split
    all_goals omega
  · dsimp only;repeat' split
    all_goals omega
  · dsimp only;rw [if_neg (by omega),if_neg (by omega)]
  · simp only [YtgmphfmoonbfpaaMv.sw];repeat' split
    all_goals rfl
structure Ord (lt:α→α→Prop) (rk:α→Nat) (c:α→α→Bool):Prop where
  trans:∀ {x y z},lt x y→lt y z→lt x z
  irr:∀ x,¬lt x x
  total:∀ x y,rk x≠rk y→lt x y∨lt y x
  fits:∀ x y,rk x<rk y→(c y x=true ↔ lt y x)
def Srt (lt:α→α→Prop) (a b:Nat) (f:Nat→α):Prop:=∀ i j,a≤i→i<j→j<b→lt (f i) (f j)
def Crs (rk:α→Nat) (a m b:Nat) (f:Nat→α):Prop:=∀ i j,a≤i→i<m→m≤j→j<b→rk (f i)<rk (f j)
variable {lt:α→α→Prop} {rk:α→Nat} {c:α→α→Bool}
theorem Srt.sub {a b a' b':Nat} {f:Nat→α} (h:Srt lt a b f) (ha:a≤a') (hb:b'≤b):Srt lt a' b' f:=fun i j h1 h2 h3=>h i j (by omega) h2 (by omega)
theorem Srt.cong {a b:Nat} {f g:Nat→α} (h:Srt lt a b f) (e:∀ k,a≤k→k<b→g k=f k):Srt lt a b g:=fun i j h1 h2 h3=>by
  rw [e i h1 (by omega),e j (by omega) h3];exact h i j h1 h2 h3
theorem Srt.one (a:Nat) (f:Nat→α):Srt lt a (a+1) f:=fun i j h1 h2 h3=>by omega
theorem Srt.join {a m b:Nat} {f:Nat→α} (h1:Srt lt a m f) (h2:Srt lt m b f) (h3:∀ i j,a≤i→i<m→m≤j→j<b→lt (f i) (f j)):Srt lt a b f:=fun i j hi hij hj=>by
  by_cases h:j<m
  · exact h1 i j hi hij h
  · by_cases h':m≤i
    · exact h2 i j h' hij hj
    · exact h3 i j hi (by omega) (by omega) hj
structure Ins (lt:α→α→Prop) (rk:α→Nat) (a i j:Nat) (f:Nat→α):Prop where
  lo:a≤j
  hi:j≤i
  srt:∀ x y,a≤x→x<y→y≤i→x≠j→y≠j→lt (f x) (f y)
  up:∀ y,j<y→y≤i→lt (f j) (f y)
  rk:∀ x,a≤x→x≤i→x≠j→rk (f x)<rk (f j)
theorem Ins.start {a i:Nat} {f:Nat→α} (hai:a≤i) (hs:Srt lt a i f) (hr:∀ x,a≤x→x<i→rk (f x)<rk (f i)):Ins lt rk a i i f:=
  ⟨hai,Nat.le_refl _,fun x y h1 h2 h3 h4 h5=>hs x y h1 h2 (by omega),fun y h1 h2=>by omega,fun x h1 h2 h3=>hr x h1 (by omega)⟩
theorem Ins.down {a i j:Nat} {f:Nat→α} (O:Ord lt rk c) (h:Ins lt rk a i (j+1) f) (ha:a≤j) (hc:c (f (j+1)) (f j)=true):Ins lt rk a i j (sw f (j+1) j):=by
  have hlt:lt (f (j+1)) (f j):=(O.fits _ _ (h.rk j ha (by have:=h.hi;omega) (by omega))).1 hc
  have e1:sw f (j+1) j j=f (j+1):=by simp [sw]
  have e2:sw f (j+1) j (j+1)=f j:=by simp [sw]
  have e3:∀ k,k≠j→k≠j+1→sw f (j+1) j k=f k:=fun k h1 h2=>by simp [sw,h1,h2]
  refine ⟨ha,by have:=h.hi;omega,fun x y h1 h2 h3 h4 h5=>?_,fun y h1 h2=>?_,fun x h1 h2 h3=>?_⟩
  · by_cases hx:x=j+1
    · subst hx
      rw [e2,e3 y h5 (by omega)]
      exact h.srt j y ha (by omega) h3 (by omega) (by omega)
    · by_cases hy:y=j+1
      · subst hy
        rw [e2,e3 x h4 hx]
        exact h.srt x j h1 (by omega) (by omega) (by omega) (by omega)
      · rw [e3 x h4 hx,e3 y h5 hy]
        exact h.srt x y h1 h2 h3 hx hy
  · rw [e1]
    by_cases hy:y=j+1
    · subst hy;rw [e2];exact hlt
    · rw [e3 y (by omega) hy];exact h.up y (by omega) h2
  · rw [e1]
    by_cases hx:x=j+1
    · subst hx;rw [e2];exact h.rk j ha (by have:=h.hi;omega) (by omega)
    · rw [e3 x h3 hx];exact h.rk x h1 h2 hx
theorem Ins.stop {a i j:Nat} {f:Nat→α} (O:Ord lt rk c) (h:Ins lt rk a i j f) (hs:j=a ∨ ∃ k,j=k+1∧c (f j) (f k)=false):Srt lt a (i+1) f:=by
  have hlow:∀ x,a≤x→x<j→lt (f x) (f j):=by
    intro x h1 h2
    rcases hs with rfl | ⟨k,rfl,hc⟩
    · omega
    · have hk:a≤k:=by omega
      have hr:=h.rk k hk (by have:=h.hi;omega) (by omega)
      have hkj:lt (f k) (f (k+1)):=by
        rcases O.total (f k) (f (k+1)) (by omega) with h' | h'
        · exact h'
        · have:=(O.fits _ _ hr).2 h'
          rw [hc] at this;cases this
      by_cases hx:x=k
      · subst hx;exact hkj
      · exact O.trans (h.srt x k h1 (by omega) (by have:=h.hi;omega) (by omega) (by omega)) hkj
  intro x y h1 h2 h3
  by_cases hx:x=j
  · subst hx;exact h.up y h2 (by omega)
  · by_cases hy:y=j
    · subst hy;exact hlow x h1 h2
    · exact h.srt x y h1 h2 (by omega) hx hy
def rot (a m b:Nat) (f:Nat→α):Nat→α:=fun k=>if a≤k∧k<a+(b - m) then f (m+(k - a)) else if a+(b - m)≤k∧k<b then f (a+(k - (a+(b - m)))) else f k
theorem rot_sp {a m b:Nat} (f:Nat→α) (h1:a≤m) (h2:m≤b):SP a b f (rot a m b f):=by
  refine ⟨fun k=>if a≤k∧k<a+(b - m) then m+(k - a) else if a+(b - m)≤k∧k<b then a+(k - (a+(b - m))) else k,
    fun k=>if m≤k∧k<b then a+(k - m) else if a≤k∧k<m then a+(b - m)+(k - a) else k,fun k=>?_,fun k=>?_,fun k hk=>?_,fun k=>?_⟩
  · dsimp only;repeat' split
    all_goals omega
  · dsimp only;repeat' split
    all_goals omega
  · dsimp only;repeat' split
    all_goals omega
  · simp only [rot];repeat' split
    all_goals rfl
theorem cut_lt {a m b s e:Nat} {f:Nat→α} (O:Ord lt rk c) (hA:Srt lt a m f) (hB:Srt lt m b f) (hX:Crs rk a m b f) (has:a≤s) (hsm:s≤m) (hme:m≤e) (heb:e≤b)
    (h1:s<m→m<e→c (f (e - 1)) (f s)=true) (h2:a<s→e<b→c (f e) (f (s - 1))=false) :
    ∀ x y,((a≤x∧x<s)∨(m≤x∧x<e))→((s≤y∧y<m)∨(e≤y∧y<b))→lt (f x) (f y):=by
  have hB1:s<m→m<e→lt (f (e - 1)) (f s):=fun g1 g2=>(O.fits _ _ (hX s (e - 1) has g1 (by omega) (by omega))).1 (h1 g1 g2)
  have hA1:a<s→e<b→lt (f (s - 1)) (f e):=fun g1 g2=>by
    have hr:=hX (s - 1) e (by omega) (by omega) hme g2
    rcases O.total (f (s - 1)) (f e) (by omega) with h | h
    · exact h
    · have:=(O.fits _ _ hr).2 h
      rw [h2 g1 g2] at this;cases this
  intro x y hx hy
  rcases hx with ⟨x1,x2⟩ | ⟨x1,x2⟩
  · rcases hy with ⟨y1,y2⟩ | ⟨y1,y2⟩
    · exact hA x y x1 (by omega) y2
    · have hm:=hA1 (by omega) (by omega)
      have h3:x=s - 1∨lt (f x) (f (s - 1)):=by
        by_cases h:x=s - 1
        · exact .inl h
        · exact .inr (hA x (s - 1) x1 (by omega) (by omega))
      have h4:y=e∨lt (f e) (f y):=by
        by_cases h:y=e
        · exact .inl h
        · exact .inr (hB e y (by omega) (by omega) y2)
      rcases h3 with rfl | h3 <;> rcases h4 with rfl | h4
      · exact hm
      · exact O.trans hm h4
      · exact O.trans h3 hm
      · exact O.trans h3 (O.trans hm h4)
  · rcases hy with ⟨y1,y2⟩ | ⟨y1,y2⟩
    · have hm:=hB1 (by omega) (by omega)
      have h3:x=e - 1∨lt (f x) (f (e - 1)):=by
        by_cases h:x=e - 1
        · exact .inl h
        · exact .inr (hB x (e - 1) x1 (by omega) (by omega))
      have h4:y=s∨lt (f s) (f y):=by
        by_cases h:y=s
        · exact .inl h
        · exact .inr (hA s y (by omega) (by omega) y2)
      rcases h3 with rfl | h3 <;> rcases h4 with rfl | h4
      · exact hm
      · exact O.trans hm h4
      · exact O.trans h3 hm
      · exact O.trans h3 (O.trans hm h4)
    · exact hB x y x1 (by omega) y2
structure Cut (lt:α→α→Prop) (rk:α→Nat) (a s mid e b:Nat) (f:Nat→α):Prop where
  l1:Srt lt a s f
  l2:Srt lt s mid f
  r1:Srt lt mid e f
  r2:Srt lt e b f
  lx:Crs rk a s mid f
  rx:Crs rk mid e b f
  lt:∀ i j,a≤i→i<mid→mid≤j→j<b→lt (f i) (f j)
theorem cut_rot {a m b s e:Nat} {f:Nat→α} (O:Ord lt rk c) (hA:Srt lt a m f) (hB:Srt lt m b f) (hX:Crs rk a m b f) (has:a≤s) (hsm:s≤m) (hme:m≤e) (heb:e≤b)
    (h1:s<m→m<e→c (f (e - 1)) (f s)=true) (h2:a<s→e<b→c (f e) (f (s - 1))=false):Cut lt rk a s (s+(e - m)) e b (rot s m e f):=by
  have hc:=cut_lt O hA hB hX has hsm hme heb h1 h2
  have e1:∀ k,k<s→rot s m e f k=f k:=fun k h=>by simp only [rot];rw [if_neg (by omega),if_neg (by omega)]
  have e2:∀ k,s≤k→k<s+(e - m)→rot s m e f k=f (m+(k - s)):=fun k h h'=>by simp only [rot];rw [if_pos ⟨h,h'⟩]
  have e3:∀ k,s+(e - m)≤k→k<e→rot s m e f k=f (s+(k - (s+(e - m)))):=fun k h h'=>by simp only [rot];rw [if_neg (by omega),if_pos ⟨h,h'⟩]
  have e4:∀ k,e≤k→rot s m e f k=f k:=fun k h=>by simp only [rot];rw [if_neg (by omega),if_neg (by omega)]
  refine ⟨fun i j g1 g2 g3=>?_,fun i j g1 g2 g3=>?_,fun i j g1 g2 g3=>?_,fun i j g1 g2 g3=>?_,fun i j g1 g2 g3 g4=>?_,fun i j g1 g2 g3 g4=>?_,fun i j g1 g2 g3 g4=>?_⟩
  · rw [e1 i (by omega),e1 j g3];exact hA i j g1 g2 (by omega)
  · rw [e2 i g1 (by omega),e2 j (by omega) g3];exact hB _ _ (by omega) (by omega) (by omega)
  · rw [e3 i g1 (by omega),e3 j (by omega) g3];exact hA _ _ (by omega) (by omega) (by omega)
  · rw [e4 i g1,e4 j (by omega)];exact hB _ _ (by omega) g2 g3
  · rw [e1 i g2,e2 j g3 g4];exact hX _ _ g1 (by omega) (by omega) (by omega)
  · rw [e3 i g1 g2,e4 j g3];exact hX _ _ (by omega) (by omega) (by omega) g4
  · have hi:∃ x,rot s m e f i=f x∧((a≤x∧x<s)∨(m≤x∧x<e)):=by
      by_cases h:i<s
      · exact ⟨i,e1 i h, .inl ⟨g1,h⟩⟩
      · exact ⟨_,e2 i (by omega) g2, .inr ⟨by omega,by omega⟩⟩
    have hj:∃ y,rot s m e f j=f y∧((s≤y∧y<m)∨(e≤y∧y<b)):=by
      by_cases h:j<e
      · exact ⟨_,e3 j g3 h, .inl ⟨by omega,by omega⟩⟩
      · exact ⟨j,e4 j (by omega), .inr ⟨by omega,g4⟩⟩
    obtain ⟨x,hx,hx'⟩:=hi
    obtain ⟨y,hy,hy'⟩:=hj
    rw [hx,hy]
    exact hc x y hx' hy'
theorem Cut.done {a s mid e b:Nat} {f g h:Nat→α} (C:Cut lt rk a s mid e b f) (ham:a≤mid) (hmb:mid≤b) (x:SP a mid f g) (y:SP mid b g h) (hg:Srt lt a mid g) (hh:Srt lt mid b h):Srt lt a b h:=by
  refine Srt.join (hg.cong fun k _ h2=>y.out (by omega)) hh fun i j g1 g2 g3 g4=>?_
  obtain ⟨k,k1,k2,k3⟩:=x.at g1 g2
  obtain ⟨l,l1,l2,l3⟩:=y.at g3 g4
  rw [y.out (k:=i) (by omega),k3,l3,x.out (k:=l) (by omega)]
  exact C.lt k l k1 k2 l1 l2
def RB (rk:α→Nat) (n bs:Nat) (f:Nat→α):Prop:=∀ i j,i<n→j<n→i / bs<j / bs→rk (f i)<rk (f j)
theorem RB.double {n bs:Nat} {f:Nat→α} (h:RB rk n bs f):RB rk n (bs * 2) f:=fun i j hi hj hij=>h i j hi hj (by
  rw [←Nat.div_div_eq_div_mul,←Nat.div_div_eq_div_mul] at hij
  apply Decidable.byContradiction
  intro hn
  have:=Nat.div_le_div_right (c:=2) (Nat.le_of_not_lt hn)
  omega)
theorem RB.sp {n bs:Nat} {f g:Nat→α} {a b:Nat} (h:RB rk n bs f) (x:SP a b f g) (hb:b≤n) (hblk:∀ k,a≤k→k<b→k / bs=a / bs):RB rk n bs g:=by
  have key:∀ i,i<n→∃ k,k<n∧k / bs=i / bs∧g i=f k:=by
    intro i hi
    by_cases hr:a≤i∧i<b
    · obtain ⟨k,k1,k2,k3⟩:=x.at hr.1 hr.2
      exact ⟨k,by omega,by rw [hblk k k1 k2,hblk i hr.1 hr.2],k3⟩
    · exact ⟨i,hi,rfl,x.out hr⟩
  intro i j hi hj hij
  obtain ⟨k,k1,k2,k3⟩:=key i hi
  obtain ⟨l,l1,l2,l3⟩:=key j hj
  rw [k3,l3]
  exact h k l k1 l1 (by omega)
def Blk (lt:α→α→Prop) (n bs:Nat) (f:Nat→α):Prop:=∀ q,Srt lt (q * bs) (min ((q+1) * bs) n) f
def swr (a b:Nat):Nat→Nat→(Nat→α)→Nat→α
  | _,0,f=>f
  | i,d+1,f=>swr a b (i+1) d (sw f (a+i) (b+i))
theorem swr_at {a b:Nat}:∀ (d i:Nat) (f:Nat→α) (k:Nat),a+d≤b→swr a b i d f k=if a+i≤k∧k<a+i+d then f (b+(k - a)) else if b+i≤k∧k<b+i+d then f (a+(k - b)) else f k
  | 0,i,f,k,_=>by
    simp only [swr]
    rw [if_neg (by omega),if_neg (by omega)]
  | d+1,i,f,k,h=>by
    simp only [swr]
    rw [swr_at d (i+1) _ k (by omega)]
    by_cases h1:a+(i+1)≤k∧k<a+(i+1)+d
    · rw [if_pos h1,if_pos (by omega)]
      simp only [sw];rw [if_neg (by omega),if_neg (by omega)]
    · rw [if_neg h1]
      by_cases h2:b+(i+1)≤k∧k<b+(i+1)+d
      · rw [if_pos h2,if_neg (by omega),if_pos (by omega)]
        simp only [sw];rw [if_neg (by omega),if_neg (by omega)]
      · rw [if_neg h2]
        simp only [sw]
        by_cases h3:k=a+i
        · rw [if_pos h3,if_pos (by omega)];congr 1;omega
        · rw [if_neg h3]
          by_cases h4:k=b+i
          · rw [if_pos h4,if_neg (by omega),if_pos (by omega)];congr 1;omega
          · rw [if_neg h4,if_neg (by omega),if_neg (by omega)]
theorem rot_end (f:Nat→α) {m i:Nat} (h:i≤m):swr (m - i) m 0 i f=rot (m - i) m (m+i) f:=by
  funext k
  rw [swr_at _ _ _ _ (by omega)]
  simp only [rot]
  by_cases h1:m - i≤k∧k<m
  · rw [if_pos (by omega),if_pos (by omega)]
  · rw [if_neg (by omega)]
    by_cases h2:m≤k∧k<m+i
    · rw [if_pos (by omega),if_neg (by omega),if_pos (by omega)];congr 1;omega
    · rw [if_neg (by omega),if_neg (by omega),if_neg (by omega)]
theorem rot_gt (f:Nat→α) {m i j:Nat} (h:i≤m) (hj:j<i):rot (m - (i - j)) m (m+j) (swr (m - i) m 0 j f)=rot (m - i) m (m+j) f:=by
  funext k
  simp only [rot,swr_at _ _ _ _ (show m - i+j≤m by omega)]
  by_cases h1:m - (i - j)≤k∧k<m - (i - j)+(m+j - m)
  · rw [if_pos h1,if_neg (by omega),if_pos (by omega),if_neg (by omega),if_pos (by omega)];congr 1;omega
  · rw [if_neg h1]
    by_cases h2:m - (i - j)+(m+j - m)≤k∧k<m+j
    · rw [if_pos h2,if_neg (by omega),if_neg (by omega),if_neg (by omega),if_pos (by omega)];congr 1;omega
    · rw [if_neg h2]
      by_cases h3:m - i≤k∧k<m - i+j
      · rw [if_pos (by omega),if_pos (by omega)]
      · rw [if_neg (by omega),if_neg (by omega),if_neg (by omega),if_neg (by omega)]
theorem rot_lt (f:Nat→α) {m i j:Nat} (h:i≤m) (hj:i<j):rot (m - i) m (m+(j - i)) (swr (m - i) (m+j - i) 0 i f)=rot (m - i) m (m+j) f:=by
  funext k
  simp only [rot,swr_at _ _ _ _ (show m - i+i≤m+j - i by omega)]
  by_cases h1:m - i≤k∧k<m - i+(m+(j - i) - m)
  · rw [if_pos h1,if_neg (by omega),if_neg (by omega),if_pos (by omega)]
  · rw [if_neg h1]
    by_cases h2:m - i+(m+(j - i) - m)≤k∧k<m+(j - i)
    · rw [if_pos h2,if_pos (by omega),if_pos (by omega)];congr 1;omega
    · rw [if_neg h2]
      by_cases h3:m+j - i≤k∧k<m+j
      · rw [if_neg (by omega),if_pos (by omega),if_neg (by omega),if_pos (by omega)];congr 1;omega
      · rw [if_neg (by omega),if_neg (by omega),if_neg (by omega),if_neg (by omega)]
theorem rot_id1 (f:Nat→α) (a b:Nat):rot a a b f=f:=by
  funext k
  simp only [rot]
  by_cases h1:a≤k∧k<a+(b - a)
  · rw [if_pos h1];congr 1;omega
  · rw [if_neg h1,if_neg (by omega)]
theorem rot_id2 (f:Nat→α) (a b:Nat) (h:a≤b):rot a b b f=f:=by
  funext k
  simp only [rot]
  rw [if_neg (by omega)]
  by_cases h1:a+(b - b)≤k∧k<b
  · rw [if_pos h1];congr 1;omega
  · rw [if_neg h1]
theorem SP.symm {a b:Nat} {f g:Nat→α} (x:SP a b f g):SP a b g f:=by
  obtain ⟨σ,τ,h1,h2,h3,h4⟩:=x
  refine ⟨τ,σ,h2,h1,fun k hk=>?_,fun k=>by rw [h4,h2]⟩
  have:=h3 k hk
  exact (congrArg τ this).symm.trans (h1 k)
theorem grow_id {n:Nat} {σ:Nat→Nat} (hl:∀ k,k<n→σ k<n) (hg:∀ i j,i<j→j<n→σ i<σ j):∀ k,k<n→σ k=k:=by
  have h1:∀ k,k<n→k≤σ k:=by
    intro k
    induction k with
    | zero=>intro _;omega
    | succ k ih=>intro hk;have:=ih (by omega);have:=hg k (k+1) (by omega) hk;omega
  have h2:∀ d k,n - k=d→k<n→σ k≤k:=by
    intro d
    induction d with
    | zero=>intro k h hk;omega
    | succ d ih=>
      intro k h hk
      by_cases hn:k+1<n
      · have:=ih (k+1) (by omega) hn
        have:=hg k (k+1) (by omega) hn
        omega
      · have:=hl k hk;omega
  intro k hk
  have:=h1 k hk
  have:=h2 _ k rfl hk
  omega
theorem srt_one {lt:α→α→Prop} (tr:∀ {x y z},lt x y→lt y z→lt x z) (ir:∀ x,¬lt x x) {n:Nat} {f g:Nat→α} (x:SP 0 n f g) (hf:Srt lt 0 n f) (hg:Srt lt 0 n g):∀ k,g k=f k:=by
  obtain ⟨σ,τ,h1,h2,h3,h4⟩:=x
  have hl:∀ k,k<n→σ k<n:=by
    intro k hk
    apply Decidable.byContradiction
    intro hn
    have:=h3 (σ k) (by omega)
    have:=congrArg τ this
    rw [h1,h1] at this
    omega
  have hgr:∀ i j,i<j→j<n→σ i<σ j:=by
    intro i j hij hj
    have hh:=hg i j (Nat.zero_le _) hij hj
    rw [h4,h4] at hh
    apply Decidable.byContradiction
    intro hn
    by_cases he:σ i=σ j
    · rw [he] at hh;exact ir _ hh
    · exact ir _ (tr hh (hf (σ j) (σ i) (Nat.zero_le _) (by omega) (hl i (by omega))))
  intro k
  rw [h4]
  by_cases hk:k<n
  · rw [grow_id hl hgr k hk]
  · rw [h3 k (by omega)]
theorem rot_up (f:Nat→α) {a k:Nat} (h:a≤k):sw (rot a (a+1) (k+1) f) k (k+1)=rot a (a+1) (k+1+1) f:=by
  funext x
  simp only [sw,rot]
  by_cases h1:x=k
  · rw [if_pos h1,if_neg (by omega),if_neg (by omega),if_pos (by omega)];congr 1;omega
  · rw [if_neg h1]
    by_cases h2:x=k+1
    · rw [if_pos h2,if_neg (by omega),if_pos (by omega),if_neg (by omega),if_pos (by omega)];congr 1;omega
    · rw [if_neg h2]
      by_cases h3:a≤x∧x<k
      · rw [if_pos (by omega),if_pos (by omega)]
      · rw [if_neg (by omega),if_neg (by omega),if_neg (by omega),if_neg (by omega)]
theorem rot_down (f:Nat→α) {m k:Nat} (h:k<m):sw (rot (k+1) m (m+1) f) (k+1) k=rot k m (m+1) f:=by
  funext x
  simp only [sw,rot]
  by_cases h1:x=k+1
  · rw [if_pos h1,if_neg (by omega),if_neg (by omega),if_neg (by omega),if_pos (by omega)];congr 1;omega
  · rw [if_neg h1]
    by_cases h2:x=k
    · rw [if_pos h2,if_pos (by omega),if_pos (by omega)];congr 1;omega
    · rw [if_neg h2]
      by_cases h3:k+1<x∧x<m+1
      · rw [if_neg (by omega),if_pos (by omega),if_neg (by omega),if_pos (by omega)];congr 1;omega
      · rw [if_neg (by omega),if_neg (by omega),if_neg (by omega),if_neg (by omega)]
theorem not_c {lt:α→α→Prop} {rk:α→Nat} {c:α→α→Bool} (O:Ord lt rk c) {x y:α} (hr:rk x<rk y) (h:c y x=false):lt x y:=by
  rcases O.total x y (by omega) with h' | h'
  · exact h'
  · have:=(O.fits _ _ hr).2 h'
    rw [h] at this;cases this
theorem ins_r {lt:α→α→Prop} {rk:α→Nat} {c:α→α→Bool} (O:Ord lt rk c) {a b i:Nat} {f:Nat→α} (hB:Srt lt (a+1) b f) (hX:Crs rk a (a+1) b f) (h1:a+1≤i) (h2:i≤b)
    (h3:i=a+1∨c (f (i - 1)) (f a)=true) (h4:i=b∨c (f i) (f a)=false):Srt lt a b (rot a (a+1) i f):=by
  have C:=cut_rot O (Srt.one a f) hB hX (Nat.le_refl a) (by omega) h1 h2 (fun _ g=>h3.resolve_left (by omega)) (fun g=>by omega)
  refine Srt.join (m:=a+(i - (a+1))) C.l2 ?_ C.lt
  refine Srt.join C.r1 C.r2 fun x y g1 g2 g3 g4=>?_
  have e1:rot a (a+1) i f x=f a:=by simp only [rot];rw [if_neg (by omega),if_pos (by omega)];congr 1;omega
  have e2:rot a (a+1) i f y=f y:=by simp only [rot];rw [if_neg (by omega),if_neg (by omega)]
  rw [e1,e2]
  have hl:lt (f a) (f i):=not_c O (hX a i (Nat.le_refl _) (by omega) (by omega) (by omega)) (h4.resolve_left (by omega))
  by_cases hy:y=i
  · rw [hy];exact hl
  · exact O.trans hl (hB i y (by omega) (by omega) g4)
theorem ins_l {lt:α→α→Prop} {rk:α→Nat} {c:α→α→Bool} (O:Ord lt rk c) {a m i:Nat} {f:Nat→α} (hA:Srt lt a m f) (hX:Crs rk a m (m+1) f) (h1:a≤i) (h2:i≤m)
    (h3:i=m∨c (f m) (f i)=true) (h4:i=a∨c (f m) (f (i - 1))=false):Srt lt a (m+1) (rot i m (m+1) f):=by
  have C:=cut_rot O hA (Srt.one m f) hX h1 h2 (by omega) (Nat.le_refl (m+1)) (fun g _=>by rw [Nat.add_sub_cancel];exact h3.resolve_left (by omega)) (fun _ g=>by omega)
  have e0:i+(m+1 - m)=i+1:=by omega
  rw [e0] at C
  refine Srt.join (Srt.join C.l1 C.l2 fun x y g1 g2 g3 g4=>?_) C.r1 C.lt
  have e1:rot i m (m+1) f x=f x:=by simp only [rot];rw [if_neg (by omega),if_neg (by omega)]
  have e2:rot i m (m+1) f y=f m:=by simp only [rot];rw [if_pos (by omega)];congr 1;omega
  rw [e1,e2]
  have hl:lt (f (i - 1)) (f m):=not_c O (hX (i - 1) m (by omega) (by omega) (Nat.le_refl _) (by omega)) (h4.resolve_left (by omega))
  by_cases hx:x=i - 1
  · rw [hx];exact hl
  · exact O.trans (hA x (i - 1) g1 (by omega) (by omega)) hl
end
end Go.Proofs.YtgmphfmoonbfpaaMv

namespace Go.Proofs.YtgmphfmoonbfpaaMv
open Go
def rf (n:Nat) (f:Nat→TNum):List (List C):=(List.range n).map fun k=>(f k).oc
theorem rf_len (n:Nat) (f:Nat→TNum):(rf n f).length=n:=by simp [rf]
theorem rf_get {n:Nat} (f:Nat→TNum) {k:Nat} (h:k<n):(rf n f)[k]? = some (f k).oc:=by
  simp only [rf,List.getElem?_map,List.getElem?_range h,Option.map_some]
theorem rf_ext {n:Nat} {l:List (List C)} {f:Nat→TNum} (hl:l.length=n) (h:∀ k,k<n→l[k]? = some (f k).oc):l=rf n f:=by
  apply List.ext_getElem?
  intro k
  by_cases hk:k<n
  · rw [h k hk,rf_get f hk]
  · rw [List.getElem?_eq_none (by omega),List.getElem?_eq_none (by rw [rf_len];omega)]
theorem rf_cong {n:Nat} {f g:Nat→TNum} (h:∀ k,k<n→f k=g k):rf n f=rf n g:=rf_ext (rf_len n f) fun k hk=>by rw [rf_get f hk,h k hk]
theorem oc_over (x y:TNum):overlay x.oc 0 y.oc=y.oc:=rfl
theorem rf_set {n:Nat} (f:Nat→TNum) (e:Nat) (y:TNum) (he:e<n):setCells (rf n f) e 0 y.oc=rf n fun k=>if k=e then y else f k:=by
  refine rf_ext ?_ fun k hk=>?_
  · simp only [setCells,rf_get f he,List.length_set,rf_len]
  · simp only [setCells,rf_get f he,oc_over]
    by_cases h:k=e
    · subst h
      rw [List.getElem?_set_self (by rw [rf_len];exact hk),if_pos rfl]
    · rw [List.getElem?_set_ne (Ne.symm h),rf_get f hk,if_neg h]
theorem rf_sw {n:Nat} (f:Nat→TNum) (i j:Nat) (hi:i<n) (hj:j<n):setCells (setCells (rf n f) i 0 (f j).oc) j 0 (f i).oc=rf n (sw f i j):=by
  rw [rf_set f i _ hi,rf_set _ j _ hj]
  refine rf_cong fun k hk=>?_
  simp only [sw]
  by_cases h1:k=j
  · by_cases h2:k=i
    · subst h1;subst h2;simp
    · simp [h1];intro h3;subst h3;rfl
  · simp [h1]
end Go.Proofs.YtgmphfmoonbfpaaMv

namespace Go.Proofs.YtgmphfmoonbfpaaMv
open Go
def cmpS (x y:TSym):Int:=if (x.glob==y.glob)=true then Go.Lib.compareBytes x.name y.name else if y.glob=true then -1 else 1
def cmpN (x y:TNum):Int:=cmpS x.s y.s
theorem u8_lt {a b:UInt8}:a<b ↔ a.toNat<b.toNat:=UInt8.lt_iff_toNat_lt
theorem u8_eq {a b:UInt8} (h:a.toNat=b.toNat):a=b:=UInt8.toNat_inj.1 h
theorem cb_flip:∀ (a b:List UInt8),Go.Lib.compareBytes a b = -Go.Lib.compareBytes b a
  | [],[]=>rfl
  | [],_::_=>rfl
  | _::_,[]=>rfl
  | a::as1,b::bs=>by
    have ih:=cb_flip as1 bs
    unfold Go.Lib.compareBytes
    by_cases h1:a<b
    · have h2:¬b<a:=by rw [u8_lt] at *;omega
      rw [if_pos h1,if_neg h2,if_pos h1]
    · by_cases h2:b<a
      · rw [if_neg h1,if_pos h2,if_pos h2];rfl
      · rw [if_neg h1,if_neg h2,if_neg h2,if_neg h1];exact ih
theorem cb_eq:∀ {a b:List UInt8},Go.Lib.compareBytes a b=0 ↔ a=b
  | [],[]=>by simp [Go.Lib.compareBytes]
  | [],_::_=>by simp [Go.Lib.compareBytes]
  | _::_,[]=>by simp [Go.Lib.compareBytes]
  | a::as1,b::bs=>by
    have ih:=cb_eq (a:=as1) (b:=bs)
    unfold Go.Lib.compareBytes
    by_cases h1:a<b
    · rw [if_pos h1]
      have:a≠b:=by intro h;subst h;rw [u8_lt] at h1;omega
      simp [this]
    · by_cases h2:b<a
      · rw [if_neg h1,if_pos h2]
        have:a≠b:=by intro h;subst h;rw [u8_lt] at h2;omega
        simp [this]
      · rw [if_neg h1,if_neg h2,ih]
        have:a=b:=u8_eq (by rw [u8_lt] at h1 h2;omega)
        simp [this]
theorem cb_trans:∀ {a b c:List UInt8},Go.Lib.compareBytes a b<0→Go.Lib.compareBytes b c<0→Go.Lib.compareBytes a c<0
  | [],[],_,h,_=>by simp [Go.Lib.compareBytes] at h
  | [],_::_,[],_,h=>by simp [Go.Lib.compareBytes] at h
  | [],_::_,_::_,_,_=>by simp [Go.Lib.compareBytes]
  | _::_,[],_,h,_=>by simp [Go.Lib.compareBytes] at h
  | _::_,_::_,[],_,h=>by simp [Go.Lib.compareBytes] at h
  | a::as1,b::bs,c::cs,h,k=>by
    have ih:=cb_trans (a:=as1) (b:=bs) (c:=cs)
    unfold Go.Lib.compareBytes at h k ⊢
    by_cases h1:a<b
    · by_cases k1:b<c
      · have:a<c:=by rw [u8_lt] at *;omega
        rw [if_pos this];decide
      · by_cases k2:c<b
        · rw [if_neg k1,if_pos k2] at k;simp at k
        · have:a<c:=by rw [u8_lt] at *;omega
          rw [if_pos this];decide
    · by_cases h2:b<a
      · rw [if_neg h1,if_pos h2] at h;simp at h
      · rw [if_neg h1,if_neg h2] at h
        have hab:a=b:=u8_eq (by rw [u8_lt] at h1 h2;omega)
        subst hab
        by_cases k1:a<c
        · rw [if_pos k1];decide
        · by_cases k2:c<a
          · rw [if_neg k1,if_pos k2] at k;simp at k
          · rw [if_neg k1,if_neg k2] at k ⊢
            exact ih h k
theorem cmp_same {x y:TSym} (h:x.glob=y.glob):cmpS x y=Go.Lib.compareBytes x.name y.name:=by simp [cmpS,h]
theorem cmp_loc {x y:TSym} (h:x.glob=false) (k:y.glob=true):cmpS x y = -1:=by simp [cmpS,h,k]
theorem cmp_glo {x y:TSym} (h:x.glob=true) (k:y.glob=false):cmpS x y=1:=by simp [cmpS,h,k]
theorem cmp_flip (x y:TSym):cmpS x y = -cmpS y x:=by
  cases h:x.glob <;> cases k:y.glob
  · rw [cmp_same (h.trans k.symm),cmp_same (k.trans h.symm)];exact cb_flip _ _
  · rw [cmp_loc h k,cmp_glo k h]
  · rw [cmp_glo h k,cmp_loc k h];rfl
  · rw [cmp_same (h.trans k.symm),cmp_same (k.trans h.symm)];exact cb_flip _ _
theorem cmp_eq {x y:TSym}:cmpS x y=0 ↔ x.name=y.name∧x.glob=y.glob:=by
  cases h:x.glob <;> cases k:y.glob
  · rw [cmp_same (h.trans k.symm),cb_eq];simp
  · rw [cmp_loc h k];simp
  · rw [cmp_glo h k];simp
  · rw [cmp_same (h.trans k.symm),cb_eq];simp
theorem cmp_trans {x y z:TSym} (h:cmpS x y<0) (k:cmpS y z<0):cmpS x z<0:=by
  cases hx:x.glob <;> cases hy:y.glob <;> cases hz:z.glob
  · rw [cmp_same (hx.trans hy.symm)] at h;rw [cmp_same (hy.trans hz.symm)] at k;rw [cmp_same (hx.trans hz.symm)];exact cb_trans h k
  · rw [cmp_loc hx hz];decide
  · rw [cmp_glo hy hz] at k;simp at k
  · rw [cmp_loc hx hz];decide
  · rw [cmp_glo hx hy] at h;simp at h
  · rw [cmp_glo hx hy] at h;simp at h
  · rw [cmp_glo hy hz] at k;simp at k
  · rw [cmp_same (hx.trans hy.symm)] at h;rw [cmp_same (hy.trans hz.symm)] at k;rw [cmp_same (hx.trans hz.symm)];exact cb_trans h k
theorem cmp_eql {x y:TSym} (h:cmpS x y=0) (z:TSym):cmpS x z=cmpS y z:=by
  obtain ⟨h1,h2⟩:=cmp_eq.1 h
  simp only [cmpS,h1,h2]
theorem cmp_eqr {x y:TSym} (h:cmpS x y=0) (z:TSym):cmpS z x=cmpS z y:=by
  obtain ⟨h1,h2⟩:=cmp_eq.1 h
  simp only [cmpS,h1,h2]
def ltN (x y:TNum):Prop:=cmpN x y<0∨(cmpN x y=0∧x.n<y.n)
def rkN (x:TNum):Nat:=x.n.toNat
def cN (x y:TNum):Bool:=decide (cmpN x y<0)
theorem ordN:Ord ltN rkN cN where
  trans:=fun {x y z} h k=>by
    unfold ltN cmpN at *
    rcases h with h | ⟨h,h'⟩
    · rcases k with k | ⟨k,k'⟩
      · exact .inl (cmp_trans h k)
      · exact .inl (by rw [←cmp_eqr k];exact h)
    · rcases k with k | ⟨k,k'⟩
      · exact .inl (by rw [cmp_eql h];exact k)
      · exact .inr ⟨by rw [cmp_eql h];exact k,by omega⟩
  irr:=fun x h=>by
    have:cmpN x x=0:=cmp_eq.2 ⟨rfl,rfl⟩
    rcases h with h | ⟨_,h⟩ <;> omega
  total:=fun x y h=>by
    have hf:cmpN x y = -cmpN y x:=cmp_flip _ _
    unfold ltN rkN at *
    rcases Int.lt_trichotomy (cmpN x y) 0 with h1 | h1 | h1
    · exact .inl (.inl h1)
    · rcases Nat.lt_or_gt_of_ne h with h2 | h2
      · exact .inl (.inr ⟨h1,by omega⟩)
      · exact .inr (.inr ⟨by omega,by omega⟩)
    · exact .inr (.inl (by omega))
  fits:=fun x y h=>by
    unfold cN ltN rkN at *
    rw [decide_eq_true_eq]
    constructor
    · exact .inl
    · rintro (h1 | ⟨_,h1⟩)
      · exact h1
      · omega
end Go.Proofs.YtgmphfmoonbfpaaMv

set_option maxRecDepth 100000
namespace Go.Proofs.YtgmphfmoonbfpaaMv
open Go
theorem w80a_0 (n:Nat) (f:Nat→TNum) (a:Nat) (b:Nat) (m:Nat) (i:Nat)
    (c0:(decide (((i:Nat):Int)<((m:Nat):Int)))=false) :
    Ev pg i80_l0 ⟨[(0,V.msl 1 18 [] 0 n),(1,V.d (D.int .i64 ((a:Nat):Int))),(2,V.d (D.int .i64 ((b:Nat):Int))),(3,V.d (D.int .i64 ((m:Nat):Int))),(10,V.d (D.int .i64 ((i:Nat):Int)))],[]::[(18,Ob.row false 5 true (rf n f))]::[]⟩ (.exit 0) ⟨[(0,V.msl 1 18 [] 0 n),(1,V.d (D.int .i64 ((a:Nat):Int))),(2,V.d (D.int .i64 ((b:Nat):Int))),(3,V.d (D.int .i64 ((m:Nat):Int))),(10,V.d (D.int .i64 ((i:Nat):Int))),(13,V.d (D.bool false))],[]::[(18,Ob.row false 5 true (rf n f))]::[]⟩:=
  by
  have r:Ev pg i80_l0 ⟨[(0,V.msl 1 18 [] 0 n),(1,V.d (D.int .i64 ((a:Nat):Int))),(2,V.d (D.int .i64 ((b:Nat):Int))),(3,V.d (D.int .i64 ((m:Nat):Int))),(10,V.d (D.int .i64 ((i:Nat):Int)))],[]::[(18,Ob.row false 5 true (rf n f))]::[]⟩ (.exit 0) ⟨[(0,V.msl 1 18 [] 0 n),(1,V.d (D.int .i64 ((a:Nat):Int))),(2,V.d (D.int .i64 ((b:Nat):Int))),(3,V.d (D.int .i64 ((m:Nat):Int))),(10,V.d (D.int .i64 ((i:Nat):Int))),(13,V.d (D.bool (decide (((i:Nat):Int)<((m:Nat):Int)))))],[]::[(18,Ob.row false 5 true (rf n f))]::[]⟩:=
  codeC_ok (hs:=[.b false]) (hs':=[]) (cs:=[_]) (by kernel_rfl) ⟨c0,trivial⟩
  simp only [c0] at r
  exact r
theorem w80a_1 (n:Nat) (f:Nat→TNum) (a:Nat) (b:Nat) (m:Nat) (i:Nat) (k1:Nat) (k2:Nat)
    (c0:(decide (((i:Nat):Int)<((m:Nat):Int)))=true)
    (c1:(IntKind.i64.wrap (((b:Nat):Int)+((i:Nat):Int)))=((k1:Nat):Int))
    (c2:k1<n)
    (c3:(rf n f)[k1]? = some [C.d (D.str ((f k1).s.name)),C.d (D.int .i64 ((f k1).s.sect)),C.d (D.int .i64 ((f k1).s.value)),C.d (D.bool ((f k1).s.glob)),C.d (D.int .i64 ((f k1).n))])
    (c4:(IntKind.i64.wrap (((a:Nat):Int)+((i:Nat):Int)))=((k2:Nat):Int))
    (c5:k2<n)
    (c6:(rf n f)[k2]? = some [C.d (D.str ((f k2).s.name)),C.d (D.int .i64 ((f k2).s.sect)),C.d (D.int .i64 ((f k2).s.value)),C.d (D.bool ((f k2).s.glob)),C.d (D.int .i64 ((f k2).n))])
    (c7:(setCells (rf n f) k2 0 [C.d (D.str ((f k1).s.name)),C.d (D.int .i64 ((f k1).s.sect)),C.d (D.int .i64 ((f k1).s.value)),C.d (D.bool ((f k1).s.glob)),C.d (D.int .i64 ((f k1).n))])[k1]? = some [C.d (D.str ((f k1).s.name)),C.d (D.int .i64 ((f k1).s.sect)),C.d (D.int .i64 ((f k1).s.value)),C.d (D.bool ((f k1).s.glob)),C.d (D.int .i64 ((f k1).n))]) :
    Ev pg i80_l0 ⟨[(0,V.msl 1 18 [] 0 n),(1,V.d (D.int .i64 ((a:Nat):Int))),(2,V.d (D.int .i64 ((b:Nat):Int))),(3,V.d (D.int .i64 ((m:Nat):Int))),(10,V.d (D.int .i64 ((i:Nat):Int)))],[]::[(18,Ob.row false 5 true (rf n f))]::[]⟩ .normal ⟨[(0,V.msl 1 18 [] 0 n),(1,V.d (D.int .i64 ((a:Nat):Int))),(2,V.d (D.int .i64 ((b:Nat):Int))),(3,V.d (D.int .i64 ((m:Nat):Int))),(10,V.d (D.int .i64 (IntKind.i64.wrap (((i:Nat):Int)+1))))],[]::[(18,Ob.row false 5 true (setCells (setCells (rf n f) k2 0 [C.d (D.str ((f k1).s.name)),C.d (D.int .i64 ((f k1).s.sect)),C.d (D.int .i64 ((f k1).s.value)),C.d (D.bool ((f k1).s.glob)),C.d (D.int .i64 ((f k1).n))]) k1 0 [C.d (D.str ((f k2).s.name)),C.d (D.int .i64 ((f k2).s.sect)),C.d (D.int .i64 ((f k2).s.value)),C.d (D.bool ((f k2).s.glob)),C.d (D.int .i64 ((f k2).n))]))]::[]⟩:=
  codeC_ok (hs:=[.b true, .n k1, .cs [C.d (D.str ((f k1).s.name)),C.d (D.int .i64 ((f k1).s.sect)),C.d (D.int .i64 ((f k1).s.value)),C.d (D.bool ((f k1).s.glob)),C.d (D.int .i64 ((f k1).n))], .n k2, .cs [C.d (D.str ((f k2).s.name)),C.d (D.int .i64 ((f k2).s.sect)),C.d (D.int .i64 ((f k2).s.value)),C.d (D.bool ((f k2).s.glob)),C.d (D.int .i64 ((f k2).n))], .n k2, .cs [C.d (D.str ((f k2).s.name)),C.d (D.int .i64 ((f k2).s.sect)),C.d (D.int .i64 ((f k2).s.value)),C.d (D.bool ((f k2).s.glob)),C.d (D.int .i64 ((f k2).n))], .n k1, .cs [C.d (D.str ((f k1).s.name)),C.d (D.int .i64 ((f k1).s.sect)),C.d (D.int .i64 ((f k1).s.value)),C.d (D.bool ((f k1).s.glob)),C.d (D.int .i64 ((f k1).n))]]) (hs':=[]) (cs:=[_,_,_,_,_,_,_,_,_,_,_,_,_]) (by kernel_rfl) ⟨c0,c1,c2,c3,c4,c5,c6,c4,c5,c6,c1,c2,c7,trivial⟩
theorem w77a_0 (n:Nat) (f:Nat→TNum) (m:Nat) (i:Nat) (j:Nat)
    (c0:(((i:Nat):Int) != ((j:Nat):Int))=false) :
    Ev pg i77_l0 ⟨[(0,V.msl 1 18 [] 0 n),(2,V.d (D.int .i64 ((m:Nat):Int))),(4,V.fn 40 []),(10,V.d (D.int .i64 ((i:Nat):Int))),(11,V.d (D.int .i64 ((j:Nat):Int)))],[]::[(18,Ob.row false 5 true (rf n f))]::[]⟩ (.exit 0) ⟨[(0,V.msl 1 18 [] 0 n),(2,V.d (D.int .i64 ((m:Nat):Int))),(4,V.fn 40 []),(10,V.d (D.int .i64 ((i:Nat):Int))),(11,V.d (D.int .i64 ((j:Nat):Int))),(20,V.d (D.bool false))],[]::[(18,Ob.row false 5 true (rf n f))]::[]⟩:=
  by
  have r:Ev pg i77_l0 ⟨[(0,V.msl 1 18 [] 0 n),(2,V.d (D.int .i64 ((m:Nat):Int))),(4,V.fn 40 []),(10,V.d (D.int .i64 ((i:Nat):Int))),(11,V.d (D.int .i64 ((j:Nat):Int)))],[]::[(18,Ob.row false 5 true (rf n f))]::[]⟩ (.exit 0) ⟨[(0,V.msl 1 18 [] 0 n),(2,V.d (D.int .i64 ((m:Nat):Int))),(4,V.fn 40 []),(10,V.d (D.int .i64 ((i:Nat):Int))),(11,V.d (D.int .i64 ((j:Nat):Int))),(20,V.d (D.bool (((i:Nat):Int) != ((j:Nat):Int))))],[]::[(18,Ob.row false 5 true (rf n f))]::[]⟩:=
  codeC_ok (hs:=[.b false]) (hs':=[]) (cs:=[_]) (by kernel_rfl) ⟨c0,trivial⟩
  simp only [c0] at r
  exact r
theorem w77a_1 (n:Nat) (f:Nat→TNum) (m:Nat) (i:Nat) (j:Nat) (g1:Nat→TNum)
    (c0:(((i:Nat):Int) != ((j:Nat):Int))=true)
    (c1:(decide (((i:Nat):Int) > ((j:Nat):Int)))=false)
    (c2:Rn pg 80 [V.msl 0 18 [] 0 n,V.d (D.int .i64 (IntKind.i64.wrap (((m:Nat):Int) - ((i:Nat):Int)))),V.d (D.int .i64 (IntKind.i64.wrap ((IntKind.i64.wrap (((m:Nat):Int)+((j:Nat):Int))) - ((i:Nat):Int)))),V.d (D.int .i64 ((i:Nat):Int)),V.fn 40 []] [[(18,Ob.row false 5 true (rf n f))]] (V.tup []) [[(18,Ob.row false 5 true (rf n g1))]]) :
    Ev pg i77_l0 ⟨[(0,V.msl 1 18 [] 0 n),(2,V.d (D.int .i64 ((m:Nat):Int))),(4,V.fn 40 []),(10,V.d (D.int .i64 ((i:Nat):Int))),(11,V.d (D.int .i64 ((j:Nat):Int)))],[]::[(18,Ob.row false 5 true (rf n f))]::[]⟩ .normal ⟨[(0,V.msl 1 18 [] 0 n),(2,V.d (D.int .i64 ((m:Nat):Int))),(4,V.fn 40 []),(10,V.d (D.int .i64 ((i:Nat):Int))),(11,V.d (D.int .i64 (IntKind.i64.wrap (((j:Nat):Int) - ((i:Nat):Int)))))],[]::[(18,Ob.row false 5 true (rf n g1))]::[]⟩:=
  codeC_ok (hs:=[.b true, .b false, .call (V.tup []) [[(18,Ob.row false 5 true (rf n g1))]]]) (hs':=[]) (cs:=[_,_,_]) (by kernel_rfl) ⟨c0,c1,c2,trivial⟩
theorem w77a_2 (n:Nat) (f:Nat→TNum) (m:Nat) (i:Nat) (j:Nat) (g1:Nat→TNum)
    (c0:(((i:Nat):Int) != ((j:Nat):Int))=true)
    (c1:(decide (((i:Nat):Int) > ((j:Nat):Int)))=true)
    (c2:Rn pg 80 [V.msl 0 18 [] 0 n,V.d (D.int .i64 (IntKind.i64.wrap (((m:Nat):Int) - ((i:Nat):Int)))),V.d (D.int .i64 ((m:Nat):Int)),V.d (D.int .i64 ((j:Nat):Int)),V.fn 40 []] [[(18,Ob.row false 5 true (rf n f))]] (V.tup []) [[(18,Ob.row false 5 true (rf n g1))]]) :
    Ev pg i77_l0 ⟨[(0,V.msl 1 18 [] 0 n),(2,V.d (D.int .i64 ((m:Nat):Int))),(4,V.fn 40 []),(10,V.d (D.int .i64 ((i:Nat):Int))),(11,V.d (D.int .i64 ((j:Nat):Int)))],[]::[(18,Ob.row false 5 true (rf n f))]::[]⟩ .normal ⟨[(0,V.msl 1 18 [] 0 n),(2,V.d (D.int .i64 ((m:Nat):Int))),(4,V.fn 40 []),(10,V.d (D.int .i64 (IntKind.i64.wrap (((i:Nat):Int) - ((j:Nat):Int))))),(11,V.d (D.int .i64 ((j:Nat):Int)))],[]::[(18,Ob.row false 5 true (rf n g1))]::[]⟩:=
  codeC_ok (hs:=[.b true, .b true, .call (V.tup []) [[(18,Ob.row false 5 true (rf n g1))]]]) (hs':=[]) (cs:=[_,_,_]) (by kernel_rfl) ⟨c0,c1,c2,trivial⟩
theorem w72b_0 (n:Nat) (f:Nat→TNum) (a:Nat) (b:Nat) (i:Nat) (j:Nat)
    (c0:(decide (((j:Nat):Int) > ((a:Nat):Int)))=false) :
    Ev pg i72_l2 ⟨[(0,V.msl 1 18 [] 0 n),(1,V.d (D.int .i64 ((a:Nat):Int))),(2,V.d (D.int .i64 ((b:Nat):Int))),(3,V.fn 40 []),(8,V.d (D.int .i64 ((i:Nat):Int))),(9,V.d (D.int .i64 ((j:Nat):Int)))],[]::[(18,Ob.row false 5 true (rf n f))]::[]⟩ (.exit 2) ⟨[(0,V.msl 1 18 [] 0 n),(1,V.d (D.int .i64 ((a:Nat):Int))),(2,V.d (D.int .i64 ((b:Nat):Int))),(3,V.fn 40 []),(8,V.d (D.int .i64 ((i:Nat):Int))),(9,V.d (D.int .i64 ((j:Nat):Int))),(34,V.d (D.bool false))],[]::[(18,Ob.row false 5 true (rf n f))]::[]⟩:=
  codeC_ok (hs:=[.b false, .b false, .b false, .b false, .b false, .b false, .b false, .b false, .b false, .b false, .b false, .b false, .b false, .b false]) (hs':=[]) (cs:=[_,_,_,_,_,_,_,_,_,_,_,_,_,false=false]) (by kernel_rfl) ⟨c0,c0,c0,c0,c0,c0,c0,c0,c0,c0,c0,c0,c0,rfl,trivial⟩
theorem w72b_1 (n:Nat) (f:Nat→TNum) (a:Nat) (b:Nat) (i:Nat) (j:Nat) (k1:Nat)
    (c0:(decide (((j:Nat):Int) > ((a:Nat):Int)))=true)
    (c1:j<n)
    (c2:(rf n f)[j]? = some [C.d (D.str ((f j).s.name)),C.d (D.int .i64 ((f j).s.sect)),C.d (D.int .i64 ((f j).s.value)),C.d (D.bool ((f j).s.glob)),C.d (D.int .i64 ((f j).n))])
    (c3:(IntKind.i64.wrap (((j:Nat):Int) - 1))=((k1:Nat):Int))
    (c4:k1<n)
    (c5:(rf n f)[k1]? = some [C.d (D.str ((f k1).s.name)),C.d (D.int .i64 ((f k1).s.sect)),C.d (D.int .i64 ((f k1).s.value)),C.d (D.bool ((f k1).s.glob)),C.d (D.int .i64 ((f k1).n))])
    (c6:Rn pg 40 [V.d (D.agg [D.str ((f j).s.name),D.int .i64 ((f j).s.sect),D.int .i64 ((f j).s.value),D.bool ((f j).s.glob),D.int .i64 ((f j).n)]),V.d (D.agg [D.str ((f k1).s.name),D.int .i64 ((f k1).s.sect),D.int .i64 ((f k1).s.value),D.bool ((f k1).s.glob),D.int .i64 ((f k1).n)])] ([]) (V.d (D.int .i64 (cmpN (f j) (f k1)))) ([]))
    (c7:(decide ((cmpN (f j) (f k1))<0))=false) :
    Ev pg i72_l2 ⟨[(0,V.msl 1 18 [] 0 n),(1,V.d (D.int .i64 ((a:Nat):Int))),(2,V.d (D.int .i64 ((b:Nat):Int))),(3,V.fn 40 []),(8,V.d (D.int .i64 ((i:Nat):Int))),(9,V.d (D.int .i64 ((j:Nat):Int)))],[]::[(18,Ob.row false 5 true (rf n f))]::[]⟩ (.exit 2) ⟨[(0,V.msl 1 18 [] 0 n),(1,V.d (D.int .i64 ((a:Nat):Int))),(2,V.d (D.int .i64 ((b:Nat):Int))),(3,V.fn 40 []),(8,V.d (D.int .i64 ((i:Nat):Int))),(9,V.d (D.int .i64 ((j:Nat):Int))),(34,V.d (D.bool false))],[]::[(18,Ob.row false 5 true (rf n f))]::[]⟩:=
  by
  have r:Ev pg i72_l2 ⟨[(0,V.msl 1 18 [] 0 n),(1,V.d (D.int .i64 ((a:Nat):Int))),(2,V.d (D.int .i64 ((b:Nat):Int))),(3,V.fn 40 []),(8,V.d (D.int .i64 ((i:Nat):Int))),(9,V.d (D.int .i64 ((j:Nat):Int)))],[]::[(18,Ob.row false 5 true (rf n f))]::[]⟩ (.exit 2) ⟨[(0,V.msl 1 18 [] 0 n),(1,V.d (D.int .i64 ((a:Nat):Int))),(2,V.d (D.int .i64 ((b:Nat):Int))),(3,V.fn 40 []),(8,V.d (D.int .i64 ((i:Nat):Int))),(9,V.d (D.int .i64 ((j:Nat):Int))),(34,V.d (D.bool (decide ((cmpN (f j) (f k1))<0))))],[]::[(18,Ob.row false 5 true (rf n f))]::[]⟩:=
  codeC_ok (hs:=[.b true, .b true, .b true, .b true, .n j, .b true, .cs [C.d (D.str ((f j).s.name)),C.d (D.int .i64 ((f j).s.sect)),C.d (D.int .i64 ((f j).s.value)),C.d (D.bool ((f j).s.glob)),C.d (D.int .i64 ((f j).n))], .b true, .b true, .b true, .b true, .n k1, .b true, .cs [C.d (D.str ((f k1).s.name)),C.d (D.int .i64 ((f k1).s.sect)),C.d (D.int .i64 ((f k1).s.value)),C.d (D.bool ((f k1).s.glob)),C.d (D.int .i64 ((f k1).n))], .b true, .call (V.d (D.int .i64 (cmpN (f j) (f k1)))) ([]), .b true, .b true, .b false]) (hs':=[]) (cs:=[_,_,_,_,((j:Nat):Int)=((j:Nat):Int),_,_,_,_,_,_,_,_,_,_,_,_,_,_,_,_]) (by kernel_rfl) ⟨c0,c0,c0,c0,rfl,c1,c0,c2,c0,c0,c0,c0,c3,c4,c0,c5,c0,c6,c0,c0,c7,trivial⟩
  simp only [c7] at r
  exact r
theorem w72b_2 (n:Nat) (f:Nat→TNum) (a:Nat) (b:Nat) (i:Nat) (j:Nat) (k1:Nat)
    (c0:(decide (((j:Nat):Int) > ((a:Nat):Int)))=true)
    (c1:j<n)
    (c2:(rf n f)[j]? = some [C.d (D.str ((f j).s.name)),C.d (D.int .i64 ((f j).s.sect)),C.d (D.int .i64 ((f j).s.value)),C.d (D.bool ((f j).s.glob)),C.d (D.int .i64 ((f j).n))])
    (c3:(IntKind.i64.wrap (((j:Nat):Int) - 1))=((k1:Nat):Int))
    (c4:k1<n)
    (c5:(rf n f)[k1]? = some [C.d (D.str ((f k1).s.name)),C.d (D.int .i64 ((f k1).s.sect)),C.d (D.int .i64 ((f k1).s.value)),C.d (D.bool ((f k1).s.glob)),C.d (D.int .i64 ((f k1).n))])
    (c6:Rn pg 40 [V.d (D.agg [D.str ((f j).s.name),D.int .i64 ((f j).s.sect),D.int .i64 ((f j).s.value),D.bool ((f j).s.glob),D.int .i64 ((f j).n)]),V.d (D.agg [D.str ((f k1).s.name),D.int .i64 ((f k1).s.sect),D.int .i64 ((f k1).s.value),D.bool ((f k1).s.glob),D.int .i64 ((f k1).n)])] ([]) (V.d (D.int .i64 (cmpN (f j) (f k1)))) ([]))
    (c7:(decide ((cmpN (f j) (f k1))<0))=true)
    (c8:(setCells (rf n f) j 0 [C.d (D.str ((f k1).s.name)),C.d (D.int .i64 ((f k1).s.sect)),C.d (D.int .i64 ((f k1).s.value)),C.d (D.bool ((f k1).s.glob)),C.d (D.int .i64 ((f k1).n))])[k1]? = some [C.d (D.str ((f k1).s.name)),C.d (D.int .i64 ((f k1).s.sect)),C.d (D.int .i64 ((f k1).s.value)),C.d (D.bool ((f k1).s.glob)),C.d (D.int .i64 ((f k1).n))]) :
    Ev pg i72_l2 ⟨[(0,V.msl 1 18 [] 0 n),(1,V.d (D.int .i64 ((a:Nat):Int))),(2,V.d (D.int .i64 ((b:Nat):Int))),(3,V.fn 40 []),(8,V.d (D.int .i64 ((i:Nat):Int))),(9,V.d (D.int .i64 ((j:Nat):Int)))],[]::[(18,Ob.row false 5 true (rf n f))]::[]⟩ .normal ⟨[(0,V.msl 1 18 [] 0 n),(1,V.d (D.int .i64 ((a:Nat):Int))),(2,V.d (D.int .i64 ((b:Nat):Int))),(3,V.fn 40 []),(8,V.d (D.int .i64 ((i:Nat):Int))),(9,V.d (D.int .i64 (IntKind.i64.wrap (((j:Nat):Int) - 1))))],[]::[(18,Ob.row false 5 true (setCells (setCells (rf n f) j 0 [C.d (D.str ((f k1).s.name)),C.d (D.int .i64 ((f k1).s.sect)),C.d (D.int .i64 ((f k1).s.value)),C.d (D.bool ((f k1).s.glob)),C.d (D.int .i64 ((f k1).n))]) k1 0 [C.d (D.str ((f j).s.name)),C.d (D.int .i64 ((f j).s.sect)),C.d (D.int .i64 ((f j).s.value)),C.d (D.bool ((f j).s.glob)),C.d (D.int .i64 ((f j).n))]))]::[]⟩:=
  codeC_ok (hs:=[.b true, .b true, .b true, .b true, .n j, .b true, .cs [C.d (D.str ((f j).s.name)),C.d (D.int .i64 ((f j).s.sect)),C.d (D.int .i64 ((f j).s.value)),C.d (D.bool ((f j).s.glob)),C.d (D.int .i64 ((f j).n))], .b true, .b true, .b true, .b true, .n k1, .b true, .cs [C.d (D.str ((f k1).s.name)),C.d (D.int .i64 ((f k1).s.sect)),C.d (D.int .i64 ((f k1).s.value)),C.d (D.bool ((f k1).s.glob)),C.d (D.int .i64 ((f k1).n))], .b true, .call (V.d (D.int .i64 (cmpN (f j) (f k1)))) ([]), .b true, .b true, .b true, .n k1, .cs [C.d (D.str ((f k1).s.name)),C.d (D.int .i64 ((f k1).s.sect)),C.d (D.int .i64 ((f k1).s.value)),C.d (D.bool ((f k1).s.glob)),C.d (D.int .i64 ((f k1).n))], .n j, .cs [C.d (D.str ((f j).s.name)),C.d (D.int .i64 ((f j).s.sect)),C.d (D.int .i64 ((f j).s.value)),C.d (D.bool ((f j).s.glob)),C.d (D.int .i64 ((f j).n))], .n j, .cs [C.d (D.str ((f j).s.name)),C.d (D.int .i64 ((f j).s.sect)),C.d (D.int .i64 ((f j).s.value)),C.d (D.bool ((f j).s.glob)),C.d (D.int .i64 ((f j).n))], .n k1, .cs [C.d (D.str ((f k1).s.name)),C.d (D.int .i64 ((f k1).s.sect)),C.d (D.int .i64 ((f k1).s.value)),C.d (D.bool ((f k1).s.glob)),C.d (D.int .i64 ((f k1).n))]]) (hs':=[]) (cs:=[_,_,_,_,((j:Nat):Int)=((j:Nat):Int),_,_,_,_,_,_,_,_,_,_,_,_,_,_,_,_,_,_,_,((j:Nat):Int)=((j:Nat):Int),_,_,((j:Nat):Int)=((j:Nat):Int),_,_,_,_,_]) (by kernel_rfl) ⟨c0,c0,c0,c0,rfl,c1,c0,c2,c0,c0,c0,c0,c3,c4,c0,c5,c0,c6,c0,c0,c7,c3,c4,c5,rfl,c1,c2,rfl,c1,c2,c3,c4,c8,trivial⟩
theorem w72a_0 (n:Nat) (f:Nat→TNum) (a:Nat) (b:Nat) (i:Nat)
    (c0:(decide (((i:Nat):Int)<((b:Nat):Int)))=false) :
    Ev pg i72_l0 ⟨[(0,V.msl 1 18 [] 0 n),(1,V.d (D.int .i64 ((a:Nat):Int))),(2,V.d (D.int .i64 ((b:Nat):Int))),(3,V.fn 40 []),(8,V.d (D.int .i64 ((i:Nat):Int)))],[]::[(18,Ob.row false 5 true (rf n f))]::[]⟩ (.exit 0) ⟨[(0,V.msl 1 18 [] 0 n),(1,V.d (D.int .i64 ((a:Nat):Int))),(2,V.d (D.int .i64 ((b:Nat):Int))),(3,V.fn 40 []),(8,V.d (D.int .i64 ((i:Nat):Int))),(14,V.d (D.bool false))],[]::[(18,Ob.row false 5 true (rf n f))]::[]⟩:=
  by
  have r:Ev pg i72_l0 ⟨[(0,V.msl 1 18 [] 0 n),(1,V.d (D.int .i64 ((a:Nat):Int))),(2,V.d (D.int .i64 ((b:Nat):Int))),(3,V.fn 40 []),(8,V.d (D.int .i64 ((i:Nat):Int)))],[]::[(18,Ob.row false 5 true (rf n f))]::[]⟩ (.exit 0) ⟨[(0,V.msl 1 18 [] 0 n),(1,V.d (D.int .i64 ((a:Nat):Int))),(2,V.d (D.int .i64 ((b:Nat):Int))),(3,V.fn 40 []),(8,V.d (D.int .i64 ((i:Nat):Int))),(14,V.d (D.bool (decide (((i:Nat):Int)<((b:Nat):Int)))))],[]::[(18,Ob.row false 5 true (rf n f))]::[]⟩:=
  codeC_ok (hs:=[.b false]) (hs':=[]) (cs:=[_]) (by kernel_rfl) ⟨c0,trivial⟩
  simp only [c0] at r
  exact r
theorem w72a_1 (n:Nat) (f:Nat→TNum) (a:Nat) (b:Nat) (i:Nat) (g1:Nat→TNum) (j2:Nat)
    (c0:(decide (((i:Nat):Int)<((b:Nat):Int)))=true)
    (c1:Lp pg i72_l2 ⟨[(0,V.msl 1 18 [] 0 n),(1,V.d (D.int .i64 ((a:Nat):Int))),(2,V.d (D.int .i64 ((b:Nat):Int))),(3,V.fn 40 []),(8,V.d (D.int .i64 ((i:Nat):Int))),(9,V.d (D.int .i64 ((i:Nat):Int)))],[]::[(18,Ob.row false 5 true (rf n f))]::[]⟩ (.exit 2) ⟨[(0,V.msl 1 18 [] 0 n),(1,V.d (D.int .i64 ((a:Nat):Int))),(2,V.d (D.int .i64 ((b:Nat):Int))),(3,V.fn 40 []),(8,V.d (D.int .i64 ((i:Nat):Int))),(9,V.d (D.int .i64 ((j2:Nat):Int))),(34,V.d (D.bool false))],[]::[(18,Ob.row false 5 true (rf n g1))]::[]⟩) :
    Ev pg i72_l0 ⟨[(0,V.msl 1 18 [] 0 n),(1,V.d (D.int .i64 ((a:Nat):Int))),(2,V.d (D.int .i64 ((b:Nat):Int))),(3,V.fn 40 []),(8,V.d (D.int .i64 ((i:Nat):Int)))],[]::[(18,Ob.row false 5 true (rf n f))]::[]⟩ .normal ⟨[(0,V.msl 1 18 [] 0 n),(1,V.d (D.int .i64 ((a:Nat):Int))),(2,V.d (D.int .i64 ((b:Nat):Int))),(3,V.fn 40 []),(8,V.d (D.int .i64 (IntKind.i64.wrap (((i:Nat):Int)+1))))],[]::[(18,Ob.row false 5 true (rf n g1))]::[]⟩:=
  codeC_ok (hs:=[.b true, .lp (.exit 2) ⟨[(0,V.msl 1 18 [] 0 n),(1,V.d (D.int .i64 ((a:Nat):Int))),(2,V.d (D.int .i64 ((b:Nat):Int))),(3,V.fn 40 []),(8,V.d (D.int .i64 ((i:Nat):Int))),(9,V.d (D.int .i64 ((j2:Nat):Int))),(34,V.d (D.bool false))],[]::[(18,Ob.row false 5 true (rf n g1))]::[]⟩]) (hs':=[]) (cs:=[_,_]) (by kernel_rfl) ⟨c0,c1,trivial⟩
theorem w80_0 (n:Nat) (f:Nat→TNum) (a:Nat) (b:Nat) (m:Nat) (g1:Nat→TNum)
 (c0:Lp pg i80_l0 ⟨[(0,V.msl 1 18 [] 0 n),(1,V.d (D.int .i64 ((a:Nat):Int))),(2,V.d (D.int .i64 ((b:Nat):Int))),(3,V.d (D.int .i64 ((m:Nat):Int))),(10,V.d (D.int .i64 0))],[]::[(18,Ob.row false 5 true (rf n f))]::[]⟩ (.exit 0) ⟨[(0,V.msl 1 18 [] 0 n),(1,V.d (D.int .i64 ((a:Nat):Int))),(2,V.d (D.int .i64 ((b:Nat):Int))),(3,V.d (D.int .i64 ((m:Nat):Int))),(10,V.d (D.int .i64 ((m:Nat):Int))),(13,V.d (D.bool false))],[]::[(18,Ob.row false 5 true (rf n g1))]::[]⟩) :
 Rn pg 80 [V.msl 0 18 [] 0 n,V.d (D.int .i64 ((a:Nat):Int)),V.d (D.int .i64 ((b:Nat):Int)),V.d (D.int .i64 ((m:Nat):Int)),V.fn 40 []] ([(18,Ob.row false 5 true (rf n f))]::[]) (V.tup []) ([(18,Ob.row false 5 true (rf n g1))]::[]):=
 Rn.c (fn:=i80) (ex:=.normal) (st:=⟨[(0,V.msl 1 18 [] 0 n),(1,V.d (D.int .i64 ((a:Nat):Int))),(2,V.d (D.int .i64 ((b:Nat):Int))),(3,V.d (D.int .i64 ((m:Nat):Int))),(10,V.d (D.int .i64 ((m:Nat):Int))),(13,V.d (D.bool false))],[]::[(18,Ob.row false 5 true (rf n g1))]::[]⟩) (hs:=[.lp (.exit 0) ⟨[(0,V.msl 1 18 [] 0 n),(1,V.d (D.int .i64 ((a:Nat):Int))),(2,V.d (D.int .i64 ((b:Nat):Int))),(3,V.d (D.int .i64 ((m:Nat):Int))),(10,V.d (D.int .i64 ((m:Nat):Int))),(13,V.d (D.bool false))],[]::[(18,Ob.row false 5 true (rf n g1))]::[]⟩]) (cs:=[_]) (rs:=[]) (t:=[])
 (by kernel_rfl) (by kernel_rfl) (by kernel_rfl) (by kernel_rfl) (by kernel_rfl) (by kernel_rfl) ⟨c0,trivial⟩
theorem w77_0 (n:Nat) (f:Nat→TNum) (a:Nat) (m:Nat) (b:Nat) (g1:Nat→TNum) (i2:Nat) (g3:Nat→TNum)
 (c0:Lp pg i77_l0 ⟨[(0,V.msl 1 18 [] 0 n),(2,V.d (D.int .i64 ((m:Nat):Int))),(4,V.fn 40 []),(10,V.d (D.int .i64 (IntKind.i64.wrap (((m:Nat):Int) - ((a:Nat):Int))))),(11,V.d (D.int .i64 (IntKind.i64.wrap (((b:Nat):Int) - ((m:Nat):Int)))))],[]::[(18,Ob.row false 5 true (rf n f))]::[]⟩ (.exit 0) ⟨[(0,V.msl 1 18 [] 0 n),(2,V.d (D.int .i64 ((m:Nat):Int))),(4,V.fn 40 []),(10,V.d (D.int .i64 ((i2:Nat):Int))),(11,V.d (D.int .i64 ((i2:Nat):Int))),(20,V.d (D.bool false))],[]::[(18,Ob.row false 5 true (rf n g1))]::[]⟩)
 (c1:Rn pg 80 [V.msl 0 18 [] 0 n,V.d (D.int .i64 (IntKind.i64.wrap (((m:Nat):Int) - ((i2:Nat):Int)))),V.d (D.int .i64 ((m:Nat):Int)),V.d (D.int .i64 ((i2:Nat):Int)),V.fn 40 []] [[(18,Ob.row false 5 true (rf n g1))]] (V.tup []) [[(18,Ob.row false 5 true (rf n g3))]]) :
 Rn pg 77 [V.msl 0 18 [] 0 n,V.d (D.int .i64 ((a:Nat):Int)),V.d (D.int .i64 ((m:Nat):Int)),V.d (D.int .i64 ((b:Nat):Int)),V.fn 40 []] ([(18,Ob.row false 5 true (rf n f))]::[]) (V.tup []) ([(18,Ob.row false 5 true (rf n g3))]::[]):=
 Rn.c (fn:=i77) (ex:=.normal) (st:=⟨[],[]::[(18,Ob.row false 5 true (rf n g3))]::[]⟩) (hs:=[.lp (.exit 0) ⟨[(0,V.msl 1 18 [] 0 n),(2,V.d (D.int .i64 ((m:Nat):Int))),(4,V.fn 40 []),(10,V.d (D.int .i64 ((i2:Nat):Int))),(11,V.d (D.int .i64 ((i2:Nat):Int))),(20,V.d (D.bool false))],[]::[(18,Ob.row false 5 true (rf n g1))]::[]⟩, .call (V.tup []) [[(18,Ob.row false 5 true (rf n g3))]]]) (cs:=[_,_]) (rs:=[]) (t:=[])
 (by kernel_rfl) (by kernel_rfl) (by kernel_rfl) (by kernel_rfl) (by kernel_rfl) (by kernel_rfl) ⟨c0,c1,trivial⟩
theorem w72_0 (n:Nat) (f:Nat→TNum) (a:Nat) (b:Nat) (g1:Nat→TNum) (i2:Nat)
 (c0:Lp pg i72_l0 ⟨[(0,V.msl 1 18 [] 0 n),(1,V.d (D.int .i64 ((a:Nat):Int))),(2,V.d (D.int .i64 ((b:Nat):Int))),(3,V.fn 40 []),(8,V.d (D.int .i64 (IntKind.i64.wrap (((a:Nat):Int)+1))))],[]::[(18,Ob.row false 5 true (rf n f))]::[]⟩ (.exit 0) ⟨[(0,V.msl 1 18 [] 0 n),(1,V.d (D.int .i64 ((a:Nat):Int))),(2,V.d (D.int .i64 ((b:Nat):Int))),(3,V.fn 40 []),(8,V.d (D.int .i64 ((i2:Nat):Int))),(14,V.d (D.bool false))],[]::[(18,Ob.row false 5 true (rf n g1))]::[]⟩) :
 Rn pg 72 [V.msl 0 18 [] 0 n,V.d (D.int .i64 ((a:Nat):Int)),V.d (D.int .i64 ((b:Nat):Int)),V.fn 40 []] ([(18,Ob.row false 5 true (rf n f))]::[]) (V.tup []) ([(18,Ob.row false 5 true (rf n g1))]::[]):=
 Rn.c (fn:=i72) (ex:=.normal) (st:=⟨[(0,V.msl 1 18 [] 0 n),(1,V.d (D.int .i64 ((a:Nat):Int))),(2,V.d (D.int .i64 ((b:Nat):Int))),(3,V.fn 40 []),(8,V.d (D.int .i64 ((i2:Nat):Int))),(14,V.d (D.bool false))],[]::[(18,Ob.row false 5 true (rf n g1))]::[]⟩) (hs:=[.lp (.exit 0) ⟨[(0,V.msl 1 18 [] 0 n),(1,V.d (D.int .i64 ((a:Nat):Int))),(2,V.d (D.int .i64 ((b:Nat):Int))),(3,V.fn 40 []),(8,V.d (D.int .i64 ((i2:Nat):Int))),(14,V.d (D.bool false))],[]::[(18,Ob.row false 5 true (rf n g1))]::[]⟩]) (cs:=[_]) (rs:=[]) (t:=[])
 (by kernel_rfl) (by kernel_rfl) (by kernel_rfl) (by kernel_rfl) (by kernel_rfl) (by kernel_rfl) ⟨c0,trivial⟩
end Go.Proofs.YtgmphfmoonbfpaaMv

set_option maxRecDepth 100000
namespace Go.Proofs.YtgmphfmoonbfpaaMv
open Go
theorem w74_0 (x:List UInt8) (y:List UInt8) (hp:HL)
 (c0:Rn pg 78 [V.d (D.str x),V.d (D.str y)] ([]) (V.d (D.int .i64 (Go.Lib.compareBytes x y))) ([])) :
 Rn pg 74 [V.d (D.str x),V.d (D.str y)] (hp) (V.d (D.int .i64 (Go.Lib.compareBytes x y))) (hp):=
 Rn.c (fn:=i74) (ex:=.ret) (st:=⟨[(4,V.d (D.int .i64 (Go.Lib.compareBytes x y)))],[]::hp⟩) (hs:=[.call (V.d (D.int .i64 (Go.Lib.compareBytes x y))) ([])]) (cs:=[_]) (rs:=[V.d (D.int .i64 (Go.Lib.compareBytes x y))]) (t:=[])
 (by kernel_rfl) (by kernel_rfl) (by kernel_rfl) (by kernel_rfl) (by kernel_rfl) (by kernel_rfl) ⟨c0,trivial⟩
theorem w63_0 (x:List UInt8) (y:List UInt8) (hp:HL)
 (c0:Rn pg 74 [V.d (D.str x),V.d (D.str y)] ([]) (V.d (D.int .i64 (Go.Lib.compareBytes x y))) ([])) :
 Rn pg 63 [V.d (D.str x),V.d (D.str y)] (hp) (V.d (D.int .i64 (Go.Lib.compareBytes x y))) (hp):=
 Rn.c (fn:=i63) (ex:=.ret) (st:=⟨[(4,V.d (D.int .i64 (Go.Lib.compareBytes x y)))],[]::hp⟩) (hs:=[.call (V.d (D.int .i64 (Go.Lib.compareBytes x y))) ([])]) (cs:=[_]) (rs:=[V.d (D.int .i64 (Go.Lib.compareBytes x y))]) (t:=[])
 (by kernel_rfl) (by kernel_rfl) (by kernel_rfl) (by kernel_rfl) (by kernel_rfl) (by kernel_rfl) ⟨c0,trivial⟩
theorem w41_0 (x:TSym) (y:TSym) (hp:HL)
 (c0:((x.glob==y.glob))=false)
 (c1:y.glob=false) :
 Rn pg 41 [V.d (D.agg [D.str x.name,D.int .i64 x.sect,D.int .i64 x.value,D.bool x.glob]),V.d (D.agg [D.str y.name,D.int .i64 y.sect,D.int .i64 y.value,D.bool y.glob])] (hp) (V.d (D.int .i64 1)) (hp):=
 Rn.c (fn:=i41) (ex:=.ret) (st:=⟨[(4,V.d (D.int .i64 1))],[]::hp⟩) (hs:=[.b false, .b false]) (cs:=[_,_]) (rs:=[V.d (D.int .i64 1)]) (t:=[])
 (by kernel_rfl) (by kernel_rfl) (by kernel_rfl) (by kernel_rfl) (by kernel_rfl) (by kernel_rfl) ⟨c0,c1,trivial⟩
theorem w41_1 (x:TSym) (y:TSym) (hp:HL)
 (c0:((x.glob==y.glob))=false)
 (c1:y.glob=true) :
 Rn pg 41 [V.d (D.agg [D.str x.name,D.int .i64 x.sect,D.int .i64 x.value,D.bool x.glob]),V.d (D.agg [D.str y.name,D.int .i64 y.sect,D.int .i64 y.value,D.bool y.glob])] (hp) (V.d (D.int .i64 (-1))) (hp):=
 Rn.c (fn:=i41) (ex:=.ret) (st:=⟨[(4,V.d (D.int .i64 (-1)))],[]::hp⟩) (hs:=[.b false, .b true]) (cs:=[_,_]) (rs:=[V.d (D.int .i64 (-1))]) (t:=[])
 (by kernel_rfl) (by kernel_rfl) (by kernel_rfl) (by kernel_rfl) (by kernel_rfl) (by kernel_rfl) ⟨c0,c1,trivial⟩
theorem w41_2 (x:TSym) (y:TSym) (hp:HL)
 (c0:((x.glob==y.glob))=true)
 (c1:Rn pg 63 [V.d (D.str x.name),V.d (D.str y.name)] ([]) (V.d (D.int .i64 (Go.Lib.compareBytes x.name y.name))) ([])) :
 Rn pg 41 [V.d (D.agg [D.str x.name,D.int .i64 x.sect,D.int .i64 x.value,D.bool x.glob]),V.d (D.agg [D.str y.name,D.int .i64 y.sect,D.int .i64 y.value,D.bool y.glob])] (hp) (V.d (D.int .i64 (Go.Lib.compareBytes x.name y.name))) (hp):=
 Rn.c (fn:=i41) (ex:=.ret) (st:=⟨[(4,V.d (D.int .i64 (Go.Lib.compareBytes x.name y.name)))],[]::hp⟩) (hs:=[.b true, .call (V.d (D.int .i64 (Go.Lib.compareBytes x.name y.name))) ([])]) (cs:=[_,_]) (rs:=[V.d (D.int .i64 (Go.Lib.compareBytes x.name y.name))]) (t:=[])
 (by kernel_rfl) (by kernel_rfl) (by kernel_rfl) (by kernel_rfl) (by kernel_rfl) (by kernel_rfl) ⟨c0,c1,trivial⟩
theorem w40_0 (x:TNum) (y:TNum) (hp:HL)
 (c0:Rn pg 41 [V.d (D.agg [D.str x.s.name,D.int .i64 x.s.sect,D.int .i64 x.s.value,D.bool x.s.glob]),V.d (D.agg [D.str y.s.name,D.int .i64 y.s.sect,D.int .i64 y.s.value,D.bool y.s.glob])] ([]) (V.d (D.int .i64 (cmpS x.s y.s))) ([])) :
 Rn pg 40 [V.d (D.agg [D.str x.s.name,D.int .i64 x.s.sect,D.int .i64 x.s.value,D.bool x.s.glob,D.int .i64 x.n]),V.d (D.agg [D.str y.s.name,D.int .i64 y.s.sect,D.int .i64 y.s.value,D.bool y.s.glob,D.int .i64 y.n])] (hp) (V.d (D.int .i64 (cmpS x.s y.s))) (hp):=
 Rn.c (fn:=i40) (ex:=.ret) (st:=⟨[(4,V.d (D.int .i64 (cmpS x.s y.s)))],[]::hp⟩) (hs:=[.call (V.d (D.int .i64 (cmpS x.s y.s))) ([])]) (cs:=[_]) (rs:=[V.d (D.int .i64 (cmpS x.s y.s))]) (t:=[])
 (by kernel_rfl) (by kernel_rfl) (by kernel_rfl) (by kernel_rfl) (by kernel_rfl) (by kernel_rfl) ⟨c0,trivial⟩
end Go.Proofs.YtgmphfmoonbfpaaMv

set_option maxRecDepth 100000
namespace Go.Proofs.YtgmphfmoonbfpaaMv
open Go
theorem wadd {a b:Nat} (h:a+b<4611686018427387904):IntKind.i64.wrap (((a:Nat):Int)+((b:Nat):Int))=((a+b:Nat):Int):=by rw [wrap64 (by omega) (by omega)];omega
theorem wadd1 {a:Nat} (h:a<4611686018427387904):IntKind.i64.wrap (((a:Nat):Int)+1)=((a+1:Nat):Int):=by rw [wrap64 (by omega) (by omega)];omega
theorem wsub {a b:Nat} (hb:b≤a) (h:a<4611686018427387904):IntKind.i64.wrap (((a:Nat):Int) - ((b:Nat):Int))=((a - b:Nat):Int):=by rw [wrap64 (by omega) (by omega)];omega
theorem wsub1 {a:Nat} (hb:1≤a) (h:a<4611686018427387904):IntKind.i64.wrap (((a:Nat):Int) - 1)=((a - 1:Nat):Int):=by rw [wrap64 (by omega) (by omega)];omega
theorem f78 (x y:List UInt8) (hp:HL):Rn pg 78 [V.d (D.str x),V.d (D.str y)] hp (V.d (D.int .i64 (Go.Lib.compareBytes x y))) hp:=Rn.ext rfl rfl
theorem f41 (x y:TSym) (hp:HL):Rn pg 41 [V.d (D.agg x.c),V.d (D.agg y.c)] hp (V.d (D.int .i64 (cmpS x y))) hp:=by
  cases h:x.glob==y.glob with
  | true=>
    have r:=w41_2 x y hp h (w63_0 _ _ [] (w74_0 _ _ [] (f78 _ _ [])))
    have e:cmpS x y=Go.Lib.compareBytes x.name y.name:=by unfold cmpS;rw [if_pos h]
    rw [e];exact r
  | false=>
    cases h2:y.glob with
    | true=>
      have r:=w41_1 x y hp h h2
      have e:cmpS x y = -1:=by unfold cmpS;rw [if_neg (by rw [h];decide),if_pos h2]
      rw [e];exact r
    | false=>
      have r:=w41_0 x y hp h h2
      have e:cmpS x y=1:=by unfold cmpS;rw [if_neg (by rw [h];decide),if_neg (by rw [h2];decide)]
      rw [e];exact r
theorem f40 (x y:TNum) (hp:HL):Rn pg 40 [V.d (D.agg x.c),V.d (D.agg y.c)] hp (V.d (D.int .i64 (cmpN x y))) hp:=w40_0 x y hp (f41 _ _ [])
abbrev iN (k:Nat):V:=V.d (D.int .i64 ((k:Nat):Int))
abbrev D0 (n:Nat):V:=V.msl 1 18 [] 0 n
abbrev hR (n:Nat) (f:Nat→TNum):HL:=[[(18,Ob.row false 5 true (rf n f))]]
theorem rf_get2 {n:Nat} (f:Nat→TNum) {i j:Nat} (hi:i<n) (hj:j<n):(setCells (rf n f) i 0 (f j).oc)[j]? = some (f j).oc:=by
  rw [rf_set f i _ hi,rf_get _ hj]
  split <;> rfl
def bdN:Nat:=1073741824
theorem l80 {n a b m:Nat} (hn:n<bdN) (ha:a+m≤n) (hb:b+m≤n):∀ (d i:Nat) (f:Nat→TNum),i+d=m→Lp pg i80_l0 ⟨[(0,D0 n),(1,iN a),(2,iN b),(3,iN m),(10,iN i)],[]::hR n f⟩ (.exit 0) ⟨[(0,D0 n),(1,iN a),(2,iN b),(3,iN m),(10,iN m),(13,V.d (D.bool false))],[]::hR n (swr a b i d f)⟩
  | 0,i,f,h=>by
    obtain rfl:i=m:=by omega
    exact Lp.exit (w80a_0 n f a b i i (by simp))
  | d+1,i,f,h=>by
    have h30:bdN=1073741824:=rfl
    have r:=w80a_1 n f a b m i (b+i) (a+i) (by simp;omega) (wadd (by omega)) (by omega) (rf_get f (by omega)) (wadd (by omega)) (by omega) (rf_get f (by omega)) (rf_get2 f (i:=a+i) (j:=b+i) (by omega) (by omega))
    rw [wadd1 (by omega)] at r
    have e:setCells (setCells (rf n f) (a+i) 0 (f (b+i)).oc) (b+i) 0 (f (a+i)).oc=rf n (sw f (a+i) (b+i)):=rf_sw f _ _ (by omega) (by omega)
    refine Lp.next (st':=⟨[(0,D0 n),(1,iN a),(2,iN b),(3,iN m),(10,iN (i+1))],[]::hR n (sw f (a+i) (b+i))⟩) ?_ (l80 hn ha hb d (i+1) _ (by omega))
    have r':Ev pg i80_l0 ⟨[(0,D0 n),(1,iN a),(2,iN b),(3,iN m),(10,iN i)],[]::hR n f⟩ .normal ⟨[(0,D0 n),(1,iN a),(2,iN b),(3,iN m),(10,iN (i+1))],[]::[[(18,Ob.row false 5 true (setCells (setCells (rf n f) (a+i) 0 (f (b+i)).oc) (b+i) 0 (f (a+i)).oc))]]⟩:=r
    rw [e] at r'
    exact r'
theorem f80 {n a b m:Nat} (f:Nat→TNum) (hn:n<bdN) (ha:a+m≤n) (hb:b+m≤n):Rn pg 80 [V.msl 0 18 [] 0 n,iN a,iN b,iN m,V.fn 40 []] (hR n f) (V.tup []) (hR n (swr a b 0 m f)):=
  w80_0 n f a b m _ (l80 hn ha hb m 0 f (by omega))
theorem l77 {n m:Nat} (hn:n<bdN):∀ (d i j:Nat) (f:Nat→TNum),i+j≤d→0<i→0<j→i≤m→m+j≤n→∃ e g,e≤m∧m+e≤n∧rot (m - e) m (m+e) g=rot (m - i) m (m+j) f ∧
    Lp pg i77_l0 ⟨[(0,D0 n),(2,iN m),(4,V.fn 40 []),(10,iN i),(11,iN j)],[]::hR n f⟩ (.exit 0) ⟨[(0,D0 n),(2,iN m),(4,V.fn 40 []),(10,iN e),(11,iN e),(20,V.d (D.bool false))],[]::hR n g⟩
  | 0,i,j,f,h,hi,hj,_,_=>by omega
  | d+1,i,j,f,h,hi,hj,him,hjn=>by
    have h30:bdN=1073741824:=rfl
    by_cases he:i=j
    · subst he
      exact ⟨i,f,him,hjn,rfl,Lp.exit (w77a_0 n f m i i (by simp))⟩
    · by_cases hg:j<i
      · have r80:=f80 (n:=n) (a:=m - i) (b:=m) (m:=j) f hn (by omega) (by omega)
        have r:=w77a_2 n f m i j (swr (m - i) m 0 j f) (by simp;omega) (by simp;omega) (by rw [wsub him (by omega)];exact r80)
        rw [wsub (by omega) (by omega)] at r
        obtain ⟨e,g,e1,e2,e3,e4⟩:=l77 hn d (i - j) j (swr (m - i) m 0 j f) (by omega) (by omega) hj (by omega) hjn
        exact ⟨e,g,e1,e2,by rw [e3];exact rot_gt f him hg,Lp.next r e4⟩
      · have r80:=f80 (n:=n) (a:=m - i) (b:=m+j - i) (m:=i) f hn (by omega) (by omega)
        have r:=w77a_1 n f m i j (swr (m - i) (m+j - i) 0 i f) (by simp;omega) (by simp;omega) (by rw [wsub him (by omega),wadd (by omega),wsub (by omega) (by omega)];exact r80)
        rw [wsub (by omega) (by omega)] at r
        obtain ⟨e,g,e1,e2,e3,e4⟩:=l77 hn d i (j - i) (swr (m - i) (m+j - i) 0 i f) (by omega) hi (by omega) him (by omega)
        exact ⟨e,g,e1,e2,by rw [e3];exact rot_lt f him (by omega),Lp.next r e4⟩
theorem f77 {n a m b:Nat} (f:Nat→TNum) (hn:n<bdN) (ha:a<m) (hm:m<b) (hb:b≤n):Rn pg 77 [V.msl 0 18 [] 0 n,iN a,iN m,iN b,V.fn 40 []] (hR n f) (V.tup []) (hR n (rot a m b f)):=by
  have h30:bdN=1073741824:=rfl
  obtain ⟨e,g,e1,e2,e3,e4⟩:=l77 (m:=m) hn (m - a+(b - m)) (m - a) (b - m) f (by omega) (by omega) (by omega) (by omega) (by omega)
  have r:=w77_0 n f a m b g e _ (by rw [wsub (by omega) (by omega),wsub (by omega) (by omega)];exact e4) (by rw [wsub e1 (by omega)];exact f80 (n:=n) (a:=m - e) (b:=m) (m:=e) g hn (by omega) (by omega))
  have e5:swr (m - e) m 0 e g=rot a m b f:=by
    rw [rot_end g e1,e3,show m - (m - a)=a by omega,show m+(b - m)=b by omega]
  rw [e5] at r
  exact r
theorem l72b {n a b i:Nat} (hn:n<bdN) (hi:i<n):∀ (j:Nat) (f:Nat→TNum),Ins ltN rkN a i j f→∃ j' g,Ins ltN rkN a i j' g∧(j'=a ∨ ∃ k,j'=k+1∧cN (g j') (g k)=false)∧SP a (i+1) f g ∧
    Lp pg i72_l2 ⟨[(0,D0 n),(1,iN a),(2,iN b),(3,V.fn 40 []),(8,iN i),(9,iN j)],[]::hR n f⟩ (.exit 2) ⟨[(0,D0 n),(1,iN a),(2,iN b),(3,V.fn 40 []),(8,iN i),(9,iN j'),(34,V.d (D.bool false))],[]::hR n g⟩:=by
  have h30:bdN=1073741824:=rfl
  intro j
  induction j with
  | zero=>
    intro f I
    have:=I.lo
    obtain rfl:a=0:=by omega
    exact ⟨0,f,I, .inl rfl,SP.refl _ _ _,Lp.exit (w72b_0 n f 0 b i 0 (by simp))⟩
  | succ j ih=>
    intro f I
    have h1:=I.lo
    have h2:=I.hi
    by_cases ha:a=j+1
    · subst ha
      exact ⟨j+1,f,I, .inl rfl,SP.refl _ _ _,Lp.exit (w72b_0 n f (j+1) b i (j+1) (by simp))⟩
    · have hgt:(decide (((j+1:Nat):Int) > ((a:Nat):Int)))=true:=by simp only [decide_eq_true_eq];omega
      have hw:IntKind.i64.wrap (((j+1:Nat):Int) - 1)=((j:Nat):Int):=wsub1 (by omega) (by omega)
      cases hc:cN (f (j+1)) (f j) with
      | false=>
        exact ⟨j+1,f,I, .inr ⟨j,rfl,hc⟩,SP.refl _ _ _,Lp.exit (w72b_1 n f a b i (j+1) j hgt (by omega) (rf_get f (by omega)) hw (by omega) (rf_get f (by omega)) (f40 _ _ []) hc)⟩
      | true=>
        have r:=w72b_2 n f a b i (j+1) j hgt (by omega) (rf_get f (by omega)) hw (by omega) (rf_get f (by omega)) (f40 _ _ []) hc (rf_get2 f (i:=j+1) (j:=j) (by omega) (by omega))
        rw [hw] at r
        have e:setCells (setCells (rf n f) (j+1) 0 (f j).oc) j 0 (f (j+1)).oc=rf n (sw f (j+1) j):=rf_sw f _ _ (by omega) (by omega)
        have r':Ev pg i72_l2 ⟨[(0,D0 n),(1,iN a),(2,iN b),(3,V.fn 40 []),(8,iN i),(9,iN (j+1))],[]::hR n f⟩ .normal ⟨[(0,D0 n),(1,iN a),(2,iN b),(3,V.fn 40 []),(8,iN i),(9,iN j)],[]::[[(18,Ob.row false 5 true (setCells (setCells (rf n f) (j+1) 0 (f j).oc) j 0 (f (j+1)).oc))]]⟩:=r
        rw [e] at r'
        obtain ⟨j',g,k1,k2,k3,k4⟩:=ih _ (I.down ordN (by omega) hc)
        exact ⟨j',g,k1,k2,(SP.sw f (by omega) (by omega)).trans k3,Lp.next r' k4⟩
theorem l72a {n a b:Nat} (hn:n<bdN) (hb:b≤n):∀ (d i:Nat) (f:Nat→TNum),b - i=d→a<i→Srt ltN a i f→(∀ x y,a≤x→x<y→i≤y→y<b→rkN (f x)<rkN (f y))→∃ i' g,SP a b f g∧Srt ltN a b g ∧
    Lp pg i72_l0 ⟨[(0,D0 n),(1,iN a),(2,iN b),(3,V.fn 40 []),(8,iN i)],[]::hR n f⟩ (.exit 0) ⟨[(0,D0 n),(1,iN a),(2,iN b),(3,V.fn 40 []),(8,iN i'),(14,V.d (D.bool false))],[]::hR n g⟩
  | 0,i,f,h,hi,hs,hr=>⟨i,f,SP.refl _ _ _,hs.sub (Nat.le_refl _) (by omega),Lp.exit (w72a_0 n f a b i (by simp;omega))⟩
  | d+1,i,f,h,hi,hs,hr=>by
    have h30:bdN=1073741824:=rfl
    have hd:b - (i+1)=d:=by omega
    have hai:a<i+1:=by omega
    have hib:i+1≤b:=by omega
    have hil:(decide (((i:Nat):Int)<((b:Nat):Int)))=true:=by simp;omega
    have hw:IntKind.i64.wrap (((i:Nat):Int)+1)=((i+1:Nat):Int):=wadd1 (by omega)
    obtain ⟨j',g,k1,k2,k3,k4⟩:=l72b (b:=b) hn (show i<n by omega) i f (Ins.start (by omega) hs fun x h1 h2=>hr x i h1 h2 (Nat.le_refl _) (by omega))
    have r:=w72a_1 n f a b i g j' hil k4
    rw [hw] at r
    obtain ⟨i',g',m1,m2,m3⟩:=l72a hn hb d (i+1) g hd hai (k1.stop ordN k2) fun x y h1 h2 h3 h4=>by
      clear k2
      rw [k3.out (k:=y) (by omega)]
      by_cases hx:x<i+1
      · obtain ⟨z,z1,z2,z3⟩:=k3.at h1 hx
        rw [z3];exact hr z y z1 (by omega) (by omega) h4
      · rw [k3.out (k:=x) (by omega)];exact hr x y h1 h2 (by omega) h4
    exact ⟨i',g',(k3.wide (Nat.le_refl _) hib).trans m1,m2,Lp.next r m3⟩
theorem f72 {n a b:Nat} (f:Nat→TNum) (hn:n<bdN) (hb:b≤n) (hab:a≤b) (hr:∀ x y,a≤x→x<y→y<b→rkN (f x)<rkN (f y)):∃ g,SP a b f g∧Srt ltN a b g ∧
    Rn pg 72 [V.msl 0 18 [] 0 n,iN a,iN b,V.fn 40 []] (hR n f) (V.tup []) (hR n g):=by
  have h30:bdN=1073741824:=rfl
  obtain ⟨i',g,k1,k2,k3⟩:=l72a (a:=a) hn hb (b - (a+1)) (a+1) f rfl (by omega) (Srt.one a f) fun x y h1 h2 _ h4=>hr x y h1 h2 h4
  exact ⟨g,k1,k2,w72_0 n f a b g i' (by rw [wadd1 (by omega)];exact k3)⟩
end Go.Proofs.YtgmphfmoonbfpaaMv

namespace Go.Proofs.YtgmphfmoonbfpaaMv
open Go
def i73_x0:IR:=.seq i73_r0 (.cond (.t 28) (.seq i73_r1 (.seq i73_r2 (.seq (.block 0 (.loop i73_l0)) (.seq (.seq i73_r8 (.block 2 (.loop i73_l2))) .ret)))) .skip)
def i73_x1:IR:=.seq i73_r12 (.cond (.t 80) (.seq i73_r13 (.seq i73_r14 (.seq (.block 4 (.loop i73_l4)) (.seq (.seq i73_r20 (.block 6 (.loop i73_l6))) .ret)))) .skip)
def i73_x2:IR:=.seq i73_r24 (.seq i73_r25 (.seq i73_r26 (.seq (.seq i73_r27 (.cond (.t 140) (.seq i73_r28 i73_r29) (.seq i73_r30 i73_r31))) (.seq i73_r32 (.seq (.block 8 (.loop i73_l8)) (.seq i73_r38 .skip))))))
def i73_x3:IR:=.seq i73_r39 (.cond (.t 185) i73_r40 .skip)
def i73_x4:IR:=.seq i73_r41 (.cond (.t 199) i73_r42 .skip)
def i73_x5:IR:=.seq i73_r43 (.cond (.t 213) i73_r44 .skip)
end Go.Proofs.YtgmphfmoonbfpaaMv

set_option maxRecDepth 100000
namespace Go.Proofs.YtgmphfmoonbfpaaMv
open Go
theorem w73a_0 (n:Nat) (f:Nat→TNum) (a:Nat) (i:Nat) (j:Nat)
    (c0:(decide (((i:Nat):Int)<((j:Nat):Int)))=false) :
    Ev pg i73_l0 ⟨[(0,V.msl 1 18 [] 0 n),(1,V.d (D.int .i64 ((a:Nat):Int))),(4,V.fn 40 []),(10,V.d (D.int .i64 ((i:Nat):Int))),(11,V.d (D.int .i64 ((j:Nat):Int)))],[]::[(18,Ob.row false 5 true (rf n f))]::[]⟩ (.exit 0) ⟨[(0,V.msl 1 18 [] 0 n),(1,V.d (D.int .i64 ((a:Nat):Int))),(4,V.fn 40 []),(10,V.d (D.int .i64 ((i:Nat):Int))),(11,V.d (D.int .i64 ((j:Nat):Int))),(33,V.d (D.bool false))],[]::[(18,Ob.row false 5 true (rf n f))]::[]⟩:=
  by
  have r:Ev pg i73_l0 ⟨[(0,V.msl 1 18 [] 0 n),(1,V.d (D.int .i64 ((a:Nat):Int))),(4,V.fn 40 []),(10,V.d (D.int .i64 ((i:Nat):Int))),(11,V.d (D.int .i64 ((j:Nat):Int)))],[]::[(18,Ob.row false 5 true (rf n f))]::[]⟩ (.exit 0) ⟨[(0,V.msl 1 18 [] 0 n),(1,V.d (D.int .i64 ((a:Nat):Int))),(4,V.fn 40 []),(10,V.d (D.int .i64 ((i:Nat):Int))),(11,V.d (D.int .i64 ((j:Nat):Int))),(33,V.d (D.bool (decide (((i:Nat):Int)<((j:Nat):Int)))))],[]::[(18,Ob.row false 5 true (rf n f))]::[]⟩:=
  codeC_ok (hs:=[.b false]) (hs':=[]) (cs:=[_]) (by kernel_rfl) ⟨c0,trivial⟩
  simp only [c0] at r
  exact r
theorem w73a_1 (n:Nat) (f:Nat→TNum) (a:Nat) (i:Nat) (j:Nat) (k1:Nat)
    (c0:(decide (((i:Nat):Int)<((j:Nat):Int)))=true)
    (c1:¬(1:Int)<0)
    (c2:(IntKind.i64.wrap ((Int.fdiv (IntKind.u64.wrap ((IntKind.i64.wrap (((i:Nat):Int)+((j:Nat):Int))))) (2 ^ (min (Int.toNat 1) 64)))))=((k1:Nat):Int))
    (c3:k1<n)
    (c4:(rf n f)[k1]? = some [C.d (D.str ((f k1).s.name)),C.d (D.int .i64 ((f k1).s.sect)),C.d (D.int .i64 ((f k1).s.value)),C.d (D.bool ((f k1).s.glob)),C.d (D.int .i64 ((f k1).n))])
    (c5:a<n)
    (c6:(rf n f)[a]? = some [C.d (D.str ((f a).s.name)),C.d (D.int .i64 ((f a).s.sect)),C.d (D.int .i64 ((f a).s.value)),C.d (D.bool ((f a).s.glob)),C.d (D.int .i64 ((f a).n))])
    (c7:Rn pg 40 [V.d (D.agg [D.str ((f k1).s.name),D.int .i64 ((f k1).s.sect),D.int .i64 ((f k1).s.value),D.bool ((f k1).s.glob),D.int .i64 ((f k1).n)]),V.d (D.agg [D.str ((f a).s.name),D.int .i64 ((f a).s.sect),D.int .i64 ((f a).s.value),D.bool ((f a).s.glob),D.int .i64 ((f a).n)])] ([]) (V.d (D.int .i64 (cmpN (f k1) (f a)))) ([]))
    (c8:(decide ((cmpN (f k1) (f a))<0))=false) :
    Ev pg i73_l0 ⟨[(0,V.msl 1 18 [] 0 n),(1,V.d (D.int .i64 ((a:Nat):Int))),(4,V.fn 40 []),(10,V.d (D.int .i64 ((i:Nat):Int))),(11,V.d (D.int .i64 ((j:Nat):Int)))],[]::[(18,Ob.row false 5 true (rf n f))]::[]⟩ .normal ⟨[(0,V.msl 1 18 [] 0 n),(1,V.d (D.int .i64 ((a:Nat):Int))),(4,V.fn 40 []),(10,V.d (D.int .i64 ((i:Nat):Int))),(11,V.d (D.int .i64 (IntKind.i64.wrap ((Int.fdiv (IntKind.u64.wrap ((IntKind.i64.wrap (((i:Nat):Int)+((j:Nat):Int))))) (2 ^ (min (Int.toNat 1) 64)))))))],[]::[(18,Ob.row false 5 true (rf n f))]::[]⟩:=
  codeC_ok (hs:=[.b true, .n k1, .cs [C.d (D.str ((f k1).s.name)),C.d (D.int .i64 ((f k1).s.sect)),C.d (D.int .i64 ((f k1).s.value)),C.d (D.bool ((f k1).s.glob)),C.d (D.int .i64 ((f k1).n))], .n a, .cs [C.d (D.str ((f a).s.name)),C.d (D.int .i64 ((f a).s.sect)),C.d (D.int .i64 ((f a).s.value)),C.d (D.bool ((f a).s.glob)),C.d (D.int .i64 ((f a).n))], .call (V.d (D.int .i64 (cmpN (f k1) (f a)))) ([]), .b false]) (hs':=[]) (cs:=[_,_,_,_,_,((a:Nat):Int)=((a:Nat):Int),_,_,_,_]) (by kernel_rfl) ⟨c0,c1,c2,c3,c4,rfl,c5,c6,c7,c8,trivial⟩
theorem w73a_2 (n:Nat) (f:Nat→TNum) (a:Nat) (i:Nat) (j:Nat) (k1:Nat)
    (c0:(decide (((i:Nat):Int)<((j:Nat):Int)))=true)
    (c1:¬(1:Int)<0)
    (c2:(IntKind.i64.wrap ((Int.fdiv (IntKind.u64.wrap ((IntKind.i64.wrap (((i:Nat):Int)+((j:Nat):Int))))) (2 ^ (min (Int.toNat 1) 64)))))=((k1:Nat):Int))
    (c3:k1<n)
    (c4:(rf n f)[k1]? = some [C.d (D.str ((f k1).s.name)),C.d (D.int .i64 ((f k1).s.sect)),C.d (D.int .i64 ((f k1).s.value)),C.d (D.bool ((f k1).s.glob)),C.d (D.int .i64 ((f k1).n))])
    (c5:a<n)
    (c6:(rf n f)[a]? = some [C.d (D.str ((f a).s.name)),C.d (D.int .i64 ((f a).s.sect)),C.d (D.int .i64 ((f a).s.value)),C.d (D.bool ((f a).s.glob)),C.d (D.int .i64 ((f a).n))])
    (c7:Rn pg 40 [V.d (D.agg [D.str ((f k1).s.name),D.int .i64 ((f k1).s.sect),D.int .i64 ((f k1).s.value),D.bool ((f k1).s.glob),D.int .i64 ((f k1).n)]),V.d (D.agg [D.str ((f a).s.name),D.int .i64 ((f a).s.sect),D.int .i64 ((f a).s.value),D.bool ((f a).s.glob),D.int .i64 ((f a).n)])] ([]) (V.d (D.int .i64 (cmpN (f k1) (f a)))) ([]))
    (c8:(decide ((cmpN (f k1) (f a))<0))=true) :
    Ev pg i73_l0 ⟨[(0,V.msl 1 18 [] 0 n),(1,V.d (D.int .i64 ((a:Nat):Int))),(4,V.fn 40 []),(10,V.d (D.int .i64 ((i:Nat):Int))),(11,V.d (D.int .i64 ((j:Nat):Int)))],[]::[(18,Ob.row false 5 true (rf n f))]::[]⟩ .normal ⟨[(0,V.msl 1 18 [] 0 n),(1,V.d (D.int .i64 ((a:Nat):Int))),(4,V.fn 40 []),(10,V.d (D.int .i64 (IntKind.i64.wrap ((IntKind.i64.wrap ((Int.fdiv (IntKind.u64.wrap ((IntKind.i64.wrap (((i:Nat):Int)+((j:Nat):Int))))) (2 ^ (min (Int.toNat 1) 64)))))+1)))),(11,V.d (D.int .i64 ((j:Nat):Int)))],[]::[(18,Ob.row false 5 true (rf n f))]::[]⟩:=
  codeC_ok (hs:=[.b true, .n k1, .cs [C.d (D.str ((f k1).s.name)),C.d (D.int .i64 ((f k1).s.sect)),C.d (D.int .i64 ((f k1).s.value)),C.d (D.bool ((f k1).s.glob)),C.d (D.int .i64 ((f k1).n))], .n a, .cs [C.d (D.str ((f a).s.name)),C.d (D.int .i64 ((f a).s.sect)),C.d (D.int .i64 ((f a).s.value)),C.d (D.bool ((f a).s.glob)),C.d (D.int .i64 ((f a).n))], .call (V.d (D.int .i64 (cmpN (f k1) (f a)))) ([]), .b true]) (hs':=[]) (cs:=[_,_,_,_,_,((a:Nat):Int)=((a:Nat):Int),_,_,_,_]) (by kernel_rfl) ⟨c0,c1,c2,c3,c4,rfl,c5,c6,c7,c8,trivial⟩
theorem w73b_0 (n:Nat) (f:Nat→TNum) (i:Nat) (k:Nat)
    (c0:(decide (((k:Nat):Int)<(IntKind.i64.wrap (((i:Nat):Int) - 1))))=false) :
    Ev pg i73_l2 ⟨[(0,V.msl 1 18 [] 0 n),(10,V.d (D.int .i64 ((i:Nat):Int))),(13,V.d (D.int .i64 ((k:Nat):Int)))],[]::[(18,Ob.row false 5 true (rf n f))]::[]⟩ (.exit 2) ⟨[(0,V.msl 1 18 [] 0 n),(10,V.d (D.int .i64 ((i:Nat):Int))),(13,V.d (D.int .i64 ((k:Nat):Int))),(58,V.d (D.bool false))],[]::[(18,Ob.row false 5 true (rf n f))]::[]⟩:=
  by
  have r:Ev pg i73_l2 ⟨[(0,V.msl 1 18 [] 0 n),(10,V.d (D.int .i64 ((i:Nat):Int))),(13,V.d (D.int .i64 ((k:Nat):Int)))],[]::[(18,Ob.row false 5 true (rf n f))]::[]⟩ (.exit 2) ⟨[(0,V.msl 1 18 [] 0 n),(10,V.d (D.int .i64 ((i:Nat):Int))),(13,V.d (D.int .i64 ((k:Nat):Int))),(58,V.d (D.bool (decide (((k:Nat):Int)<(IntKind.i64.wrap (((i:Nat):Int) - 1))))))],[]::[(18,Ob.row false 5 true (rf n f))]::[]⟩:=
  codeC_ok (hs:=[.b false]) (hs':=[]) (cs:=[_]) (by kernel_rfl) ⟨c0,trivial⟩
  simp only [c0] at r
  exact r
theorem w73b_1 (n:Nat) (f:Nat→TNum) (i:Nat) (k:Nat) (k1:Nat)
    (c0:(decide (((k:Nat):Int)<(IntKind.i64.wrap (((i:Nat):Int) - 1))))=true)
    (c1:(IntKind.i64.wrap (((k:Nat):Int)+1))=((k1:Nat):Int))
    (c2:k1<n)
    (c3:(rf n f)[k1]? = some [C.d (D.str ((f k1).s.name)),C.d (D.int .i64 ((f k1).s.sect)),C.d (D.int .i64 ((f k1).s.value)),C.d (D.bool ((f k1).s.glob)),C.d (D.int .i64 ((f k1).n))])
    (c4:k<n)
    (c5:(rf n f)[k]? = some [C.d (D.str ((f k).s.name)),C.d (D.int .i64 ((f k).s.sect)),C.d (D.int .i64 ((f k).s.value)),C.d (D.bool ((f k).s.glob)),C.d (D.int .i64 ((f k).n))])
    (c6:(setCells (rf n f) k 0 [C.d (D.str ((f k1).s.name)),C.d (D.int .i64 ((f k1).s.sect)),C.d (D.int .i64 ((f k1).s.value)),C.d (D.bool ((f k1).s.glob)),C.d (D.int .i64 ((f k1).n))])[k1]? = some [C.d (D.str ((f k1).s.name)),C.d (D.int .i64 ((f k1).s.sect)),C.d (D.int .i64 ((f k1).s.value)),C.d (D.bool ((f k1).s.glob)),C.d (D.int .i64 ((f k1).n))]) :
    Ev pg i73_l2 ⟨[(0,V.msl 1 18 [] 0 n),(10,V.d (D.int .i64 ((i:Nat):Int))),(13,V.d (D.int .i64 ((k:Nat):Int)))],[]::[(18,Ob.row false 5 true (rf n f))]::[]⟩ .normal ⟨[(0,V.msl 1 18 [] 0 n),(10,V.d (D.int .i64 ((i:Nat):Int))),(13,V.d (D.int .i64 (IntKind.i64.wrap (((k:Nat):Int)+1))))],[]::[(18,Ob.row false 5 true (setCells (setCells (rf n f) k 0 [C.d (D.str ((f k1).s.name)),C.d (D.int .i64 ((f k1).s.sect)),C.d (D.int .i64 ((f k1).s.value)),C.d (D.bool ((f k1).s.glob)),C.d (D.int .i64 ((f k1).n))]) k1 0 [C.d (D.str ((f k).s.name)),C.d (D.int .i64 ((f k).s.sect)),C.d (D.int .i64 ((f k).s.value)),C.d (D.bool ((f k).s.glob)),C.d (D.int .i64 ((f k).n))]))]::[]⟩:=
  codeC_ok (hs:=[.b true, .n k1, .cs [C.d (D.str ((f k1).s.name)),C.d (D.int .i64 ((f k1).s.sect)),C.d (D.int .i64 ((f k1).s.value)),C.d (D.bool ((f k1).s.glob)),C.d (D.int .i64 ((f k1).n))], .n k, .cs [C.d (D.str ((f k).s.name)),C.d (D.int .i64 ((f k).s.sect)),C.d (D.int .i64 ((f k).s.value)),C.d (D.bool ((f k).s.glob)),C.d (D.int .i64 ((f k).n))], .n k, .cs [C.d (D.str ((f k).s.name)),C.d (D.int .i64 ((f k).s.sect)),C.d (D.int .i64 ((f k).s.value)),C.d (D.bool ((f k).s.glob)),C.d (D.int .i64 ((f k).n))], .n k1, .cs [C.d (D.str ((f k1).s.name)),C.d (D.int .i64 ((f k1).s.sect)),C.d (D.int .i64 ((f k1).s.value)),C.d (D.bool ((f k1).s.glob)),C.d (D.int .i64 ((f k1).n))]]) (hs':=[]) (cs:=[_,_,_,_,((k:Nat):Int)=((k:Nat):Int),_,_,((k:Nat):Int)=((k:Nat):Int),_,_,_,_,_]) (by kernel_rfl) ⟨c0,c1,c2,c3,rfl,c4,c5,rfl,c4,c5,c1,c2,c6,trivial⟩
theorem w73c_0 (n:Nat) (f:Nat→TNum) (m:Nat) (i:Nat) (j:Nat)
    (c0:(decide (((i:Nat):Int)<((j:Nat):Int)))=false) :
    Ev pg i73_l4 ⟨[(0,V.msl 1 18 [] 0 n),(2,V.d (D.int .i64 ((m:Nat):Int))),(4,V.fn 40 []),(14,V.d (D.int .i64 ((i:Nat):Int))),(15,V.d (D.int .i64 ((j:Nat):Int)))],[]::[(18,Ob.row false 5 true (rf n f))]::[]⟩ (.exit 4) ⟨[(0,V.msl 1 18 [] 0 n),(2,V.d (D.int .i64 ((m:Nat):Int))),(4,V.fn 40 []),(14,V.d (D.int .i64 ((i:Nat):Int))),(15,V.d (D.int .i64 ((j:Nat):Int))),(85,V.d (D.bool false))],[]::[(18,Ob.row false 5 true (rf n f))]::[]⟩:=
  by
  have r:Ev pg i73_l4 ⟨[(0,V.msl 1 18 [] 0 n),(2,V.d (D.int .i64 ((m:Nat):Int))),(4,V.fn 40 []),(14,V.d (D.int .i64 ((i:Nat):Int))),(15,V.d (D.int .i64 ((j:Nat):Int)))],[]::[(18,Ob.row false 5 true (rf n f))]::[]⟩ (.exit 4) ⟨[(0,V.msl 1 18 [] 0 n),(2,V.d (D.int .i64 ((m:Nat):Int))),(4,V.fn 40 []),(14,V.d (D.int .i64 ((i:Nat):Int))),(15,V.d (D.int .i64 ((j:Nat):Int))),(85,V.d (D.bool (decide (((i:Nat):Int)<((j:Nat):Int)))))],[]::[(18,Ob.row false 5 true (rf n f))]::[]⟩:=
  codeC_ok (hs:=[.b false]) (hs':=[]) (cs:=[_]) (by kernel_rfl) ⟨c0,trivial⟩
  simp only [c0] at r
  exact r
theorem w73c_1 (n:Nat) (f:Nat→TNum) (m:Nat) (i:Nat) (j:Nat) (k1:Nat)
    (c0:(decide (((i:Nat):Int)<((j:Nat):Int)))=true)
    (c1:¬(1:Int)<0)
    (c2:m<n)
    (c3:(rf n f)[m]? = some [C.d (D.str ((f m).s.name)),C.d (D.int .i64 ((f m).s.sect)),C.d (D.int .i64 ((f m).s.value)),C.d (D.bool ((f m).s.glob)),C.d (D.int .i64 ((f m).n))])
    (c4:(IntKind.i64.wrap ((Int.fdiv (IntKind.u64.wrap ((IntKind.i64.wrap (((i:Nat):Int)+((j:Nat):Int))))) (2 ^ (min (Int.toNat 1) 64)))))=((k1:Nat):Int))
    (c5:k1<n)
    (c6:(rf n f)[k1]? = some [C.d (D.str ((f k1).s.name)),C.d (D.int .i64 ((f k1).s.sect)),C.d (D.int .i64 ((f k1).s.value)),C.d (D.bool ((f k1).s.glob)),C.d (D.int .i64 ((f k1).n))])
    (c7:Rn pg 40 [V.d (D.agg [D.str ((f m).s.name),D.int .i64 ((f m).s.sect),D.int .i64 ((f m).s.value),D.bool ((f m).s.glob),D.int .i64 ((f m).n)]),V.d (D.agg [D.str ((f k1).s.name),D.int .i64 ((f k1).s.sect),D.int .i64 ((f k1).s.value),D.bool ((f k1).s.glob),D.int .i64 ((f k1).n)])] ([]) (V.d (D.int .i64 (cmpN (f m) (f k1)))) ([]))
    (c8:(!(decide ((cmpN (f m) (f k1))<0)))=false) :
    Ev pg i73_l4 ⟨[(0,V.msl 1 18 [] 0 n),(2,V.d (D.int .i64 ((m:Nat):Int))),(4,V.fn 40 []),(14,V.d (D.int .i64 ((i:Nat):Int))),(15,V.d (D.int .i64 ((j:Nat):Int)))],[]::[(18,Ob.row false 5 true (rf n f))]::[]⟩ .normal ⟨[(0,V.msl 1 18 [] 0 n),(2,V.d (D.int .i64 ((m:Nat):Int))),(4,V.fn 40 []),(14,V.d (D.int .i64 ((i:Nat):Int))),(15,V.d (D.int .i64 (IntKind.i64.wrap ((Int.fdiv (IntKind.u64.wrap ((IntKind.i64.wrap (((i:Nat):Int)+((j:Nat):Int))))) (2 ^ (min (Int.toNat 1) 64)))))))],[]::[(18,Ob.row false 5 true (rf n f))]::[]⟩:=
  codeC_ok (hs:=[.b true, .n m, .cs [C.d (D.str ((f m).s.name)),C.d (D.int .i64 ((f m).s.sect)),C.d (D.int .i64 ((f m).s.value)),C.d (D.bool ((f m).s.glob)),C.d (D.int .i64 ((f m).n))], .n k1, .cs [C.d (D.str ((f k1).s.name)),C.d (D.int .i64 ((f k1).s.sect)),C.d (D.int .i64 ((f k1).s.value)),C.d (D.bool ((f k1).s.glob)),C.d (D.int .i64 ((f k1).n))], .call (V.d (D.int .i64 (cmpN (f m) (f k1)))) ([]), .b false]) (hs':=[]) (cs:=[_,_,((m:Nat):Int)=((m:Nat):Int),_,_,_,_,_,_,_]) (by kernel_rfl) ⟨c0,c1,rfl,c2,c3,c4,c5,c6,c7,c8,trivial⟩
theorem w73c_2 (n:Nat) (f:Nat→TNum) (m:Nat) (i:Nat) (j:Nat) (k1:Nat)
    (c0:(decide (((i:Nat):Int)<((j:Nat):Int)))=true)
    (c1:¬(1:Int)<0)
    (c2:m<n)
    (c3:(rf n f)[m]? = some [C.d (D.str ((f m).s.name)),C.d (D.int .i64 ((f m).s.sect)),C.d (D.int .i64 ((f m).s.value)),C.d (D.bool ((f m).s.glob)),C.d (D.int .i64 ((f m).n))])
    (c4:(IntKind.i64.wrap ((Int.fdiv (IntKind.u64.wrap ((IntKind.i64.wrap (((i:Nat):Int)+((j:Nat):Int))))) (2 ^ (min (Int.toNat 1) 64)))))=((k1:Nat):Int))
    (c5:k1<n)
    (c6:(rf n f)[k1]? = some [C.d (D.str ((f k1).s.name)),C.d (D.int .i64 ((f k1).s.sect)),C.d (D.int .i64 ((f k1).s.value)),C.d (D.bool ((f k1).s.glob)),C.d (D.int .i64 ((f k1).n))])
    (c7:Rn pg 40 [V.d (D.agg [D.str ((f m).s.name),D.int .i64 ((f m).s.sect),D.int .i64 ((f m).s.value),D.bool ((f m).s.glob),D.int .i64 ((f m).n)]),V.d (D.agg [D.str ((f k1).s.name),D.int .i64 ((f k1).s.sect),D.int .i64 ((f k1).s.value),D.bool ((f k1).s.glob),D.int .i64 ((f k1).n)])] ([]) (V.d (D.int .i64 (cmpN (f m) (f k1)))) ([]))
    (c8:(!(decide ((cmpN (f m) (f k1))<0)))=true) :
    Ev pg i73_l4 ⟨[(0,V.msl 1 18 [] 0 n),(2,V.d (D.int .i64 ((m:Nat):Int))),(4,V.fn 40 []),(14,V.d (D.int .i64 ((i:Nat):Int))),(15,V.d (D.int .i64 ((j:Nat):Int)))],[]::[(18,Ob.row false 5 true (rf n f))]::[]⟩ .normal ⟨[(0,V.msl 1 18 [] 0 n),(2,V.d (D.int .i64 ((m:Nat):Int))),(4,V.fn 40 []),(14,V.d (D.int .i64 (IntKind.i64.wrap ((IntKind.i64.wrap ((Int.fdiv (IntKind.u64.wrap ((IntKind.i64.wrap (((i:Nat):Int)+((j:Nat):Int))))) (2 ^ (min (Int.toNat 1) 64)))))+1)))),(15,V.d (D.int .i64 ((j:Nat):Int)))],[]::[(18,Ob.row false 5 true (rf n f))]::[]⟩:=
  codeC_ok (hs:=[.b true, .n m, .cs [C.d (D.str ((f m).s.name)),C.d (D.int .i64 ((f m).s.sect)),C.d (D.int .i64 ((f m).s.value)),C.d (D.bool ((f m).s.glob)),C.d (D.int .i64 ((f m).n))], .n k1, .cs [C.d (D.str ((f k1).s.name)),C.d (D.int .i64 ((f k1).s.sect)),C.d (D.int .i64 ((f k1).s.value)),C.d (D.bool ((f k1).s.glob)),C.d (D.int .i64 ((f k1).n))], .call (V.d (D.int .i64 (cmpN (f m) (f k1)))) ([]), .b true]) (hs':=[]) (cs:=[_,_,((m:Nat):Int)=((m:Nat):Int),_,_,_,_,_,_,_]) (by kernel_rfl) ⟨c0,c1,rfl,c2,c3,c4,c5,c6,c7,c8,trivial⟩
theorem w73d_0 (n:Nat) (f:Nat→TNum) (i:Nat) (k:Nat)
    (c0:(decide (((k:Nat):Int) > ((i:Nat):Int)))=false) :
    Ev pg i73_l6 ⟨[(0,V.msl 1 18 [] 0 n),(14,V.d (D.int .i64 ((i:Nat):Int))),(17,V.d (D.int .i64 ((k:Nat):Int)))],[]::[(18,Ob.row false 5 true (rf n f))]::[]⟩ (.exit 6) ⟨[(0,V.msl 1 18 [] 0 n),(14,V.d (D.int .i64 ((i:Nat):Int))),(17,V.d (D.int .i64 ((k:Nat):Int))),(110,V.d (D.bool false))],[]::[(18,Ob.row false 5 true (rf n f))]::[]⟩:=
  by
  have r:Ev pg i73_l6 ⟨[(0,V.msl 1 18 [] 0 n),(14,V.d (D.int .i64 ((i:Nat):Int))),(17,V.d (D.int .i64 ((k:Nat):Int)))],[]::[(18,Ob.row false 5 true (rf n f))]::[]⟩ (.exit 6) ⟨[(0,V.msl 1 18 [] 0 n),(14,V.d (D.int .i64 ((i:Nat):Int))),(17,V.d (D.int .i64 ((k:Nat):Int))),(110,V.d (D.bool (decide (((k:Nat):Int) > ((i:Nat):Int)))))],[]::[(18,Ob.row false 5 true (rf n f))]::[]⟩:=
  codeC_ok (hs:=[.b false]) (hs':=[]) (cs:=[_]) (by kernel_rfl) ⟨c0,trivial⟩
  simp only [c0] at r
  exact r
theorem w73d_1 (n:Nat) (f:Nat→TNum) (i:Nat) (k:Nat) (k1:Nat)
    (c0:(decide (((k:Nat):Int) > ((i:Nat):Int)))=true)
    (c1:(IntKind.i64.wrap (((k:Nat):Int) - 1))=((k1:Nat):Int))
    (c2:k1<n)
    (c3:(rf n f)[k1]? = some [C.d (D.str ((f k1).s.name)),C.d (D.int .i64 ((f k1).s.sect)),C.d (D.int .i64 ((f k1).s.value)),C.d (D.bool ((f k1).s.glob)),C.d (D.int .i64 ((f k1).n))])
    (c4:k<n)
    (c5:(rf n f)[k]? = some [C.d (D.str ((f k).s.name)),C.d (D.int .i64 ((f k).s.sect)),C.d (D.int .i64 ((f k).s.value)),C.d (D.bool ((f k).s.glob)),C.d (D.int .i64 ((f k).n))])
    (c6:(setCells (rf n f) k 0 [C.d (D.str ((f k1).s.name)),C.d (D.int .i64 ((f k1).s.sect)),C.d (D.int .i64 ((f k1).s.value)),C.d (D.bool ((f k1).s.glob)),C.d (D.int .i64 ((f k1).n))])[k1]? = some [C.d (D.str ((f k1).s.name)),C.d (D.int .i64 ((f k1).s.sect)),C.d (D.int .i64 ((f k1).s.value)),C.d (D.bool ((f k1).s.glob)),C.d (D.int .i64 ((f k1).n))]) :
    Ev pg i73_l6 ⟨[(0,V.msl 1 18 [] 0 n),(14,V.d (D.int .i64 ((i:Nat):Int))),(17,V.d (D.int .i64 ((k:Nat):Int)))],[]::[(18,Ob.row false 5 true (rf n f))]::[]⟩ .normal ⟨[(0,V.msl 1 18 [] 0 n),(14,V.d (D.int .i64 ((i:Nat):Int))),(17,V.d (D.int .i64 (IntKind.i64.wrap (((k:Nat):Int) - 1))))],[]::[(18,Ob.row false 5 true (setCells (setCells (rf n f) k 0 [C.d (D.str ((f k1).s.name)),C.d (D.int .i64 ((f k1).s.sect)),C.d (D.int .i64 ((f k1).s.value)),C.d (D.bool ((f k1).s.glob)),C.d (D.int .i64 ((f k1).n))]) k1 0 [C.d (D.str ((f k).s.name)),C.d (D.int .i64 ((f k).s.sect)),C.d (D.int .i64 ((f k).s.value)),C.d (D.bool ((f k).s.glob)),C.d (D.int .i64 ((f k).n))]))]::[]⟩:=
  codeC_ok (hs:=[.b true, .n k1, .cs [C.d (D.str ((f k1).s.name)),C.d (D.int .i64 ((f k1).s.sect)),C.d (D.int .i64 ((f k1).s.value)),C.d (D.bool ((f k1).s.glob)),C.d (D.int .i64 ((f k1).n))], .n k, .cs [C.d (D.str ((f k).s.name)),C.d (D.int .i64 ((f k).s.sect)),C.d (D.int .i64 ((f k).s.value)),C.d (D.bool ((f k).s.glob)),C.d (D.int .i64 ((f k).n))], .n k, .cs [C.d (D.str ((f k).s.name)),C.d (D.int .i64 ((f k).s.sect)),C.d (D.int .i64 ((f k).s.value)),C.d (D.bool ((f k).s.glob)),C.d (D.int .i64 ((f k).n))], .n k1, .cs [C.d (D.str ((f k1).s.name)),C.d (D.int .i64 ((f k1).s.sect)),C.d (D.int .i64 ((f k1).s.value)),C.d (D.bool ((f k1).s.glob)),C.d (D.int .i64 ((f k1).n))]]) (hs':=[]) (cs:=[_,_,_,_,((k:Nat):Int)=((k:Nat):Int),_,_,((k:Nat):Int)=((k:Nat):Int),_,_,_,_,_]) (by kernel_rfl) ⟨c0,c1,c2,c3,rfl,c4,c5,rfl,c4,c5,c1,c2,c6,trivial⟩
theorem w73e_0 (n:Nat) (f:Nat→TNum) (a:Nat) (m:Nat) (b:Nat) (mid:Nat) (nn:Nat) (i:Nat) (j:Nat) (p:Nat)
    (c0:(decide (((i:Nat):Int)<((j:Nat):Int)))=false) :
    Ev pg i73_l8 ⟨[(0,V.msl 1 18 [] 0 n),(1,V.d (D.int .i64 ((a:Nat):Int))),(2,V.d (D.int .i64 ((m:Nat):Int))),(3,V.d (D.int .i64 ((b:Nat):Int))),(4,V.fn 40 []),(18,V.d (D.int .i64 ((mid:Nat):Int))),(19,V.d (D.int .i64 ((nn:Nat):Int))),(20,V.d (D.int .i64 ((i:Nat):Int))),(21,V.d (D.int .i64 ((j:Nat):Int))),(22,V.d (D.int .i64 ((p:Nat):Int)))],[]::[(18,Ob.row false 5 true (rf n f))]::[]⟩ (.exit 8) ⟨[(0,V.msl 1 18 [] 0 n),(1,V.d (D.int .i64 ((a:Nat):Int))),(2,V.d (D.int .i64 ((m:Nat):Int))),(3,V.d (D.int .i64 ((b:Nat):Int))),(4,V.fn 40 []),(18,V.d (D.int .i64 ((mid:Nat):Int))),(19,V.d (D.int .i64 ((nn:Nat):Int))),(20,V.d (D.int .i64 ((i:Nat):Int))),(21,V.d (D.int .i64 ((j:Nat):Int))),(22,V.d (D.int .i64 ((p:Nat):Int))),(151,V.d (D.bool false))],[]::[(18,Ob.row false 5 true (rf n f))]::[]⟩:=
  by
  have r:Ev pg i73_l8 ⟨[(0,V.msl 1 18 [] 0 n),(1,V.d (D.int .i64 ((a:Nat):Int))),(2,V.d (D.int .i64 ((m:Nat):Int))),(3,V.d (D.int .i64 ((b:Nat):Int))),(4,V.fn 40 []),(18,V.d (D.int .i64 ((mid:Nat):Int))),(19,V.d (D.int .i64 ((nn:Nat):Int))),(20,V.d (D.int .i64 ((i:Nat):Int))),(21,V.d (D.int .i64 ((j:Nat):Int))),(22,V.d (D.int .i64 ((p:Nat):Int)))],[]::[(18,Ob.row false 5 true (rf n f))]::[]⟩ (.exit 8) ⟨[(0,V.msl 1 18 [] 0 n),(1,V.d (D.int .i64 ((a:Nat):Int))),(2,V.d (D.int .i64 ((m:Nat):Int))),(3,V.d (D.int .i64 ((b:Nat):Int))),(4,V.fn 40 []),(18,V.d (D.int .i64 ((mid:Nat):Int))),(19,V.d (D.int .i64 ((nn:Nat):Int))),(20,V.d (D.int .i64 ((i:Nat):Int))),(21,V.d (D.int .i64 ((j:Nat):Int))),(22,V.d (D.int .i64 ((p:Nat):Int))),(151,V.d (D.bool (decide (((i:Nat):Int)<((j:Nat):Int)))))],[]::[(18,Ob.row false 5 true (rf n f))]::[]⟩:=
  codeC_ok (hs:=[.b false]) (hs':=[]) (cs:=[_]) (by kernel_rfl) ⟨c0,trivial⟩
  simp only [c0] at r
  exact r
theorem w73e_1 (n:Nat) (f:Nat→TNum) (a:Nat) (m:Nat) (b:Nat) (mid:Nat) (nn:Nat) (i:Nat) (j:Nat) (p:Nat) (k1:Nat) (k2:Nat)
    (c0:(decide (((i:Nat):Int)<((j:Nat):Int)))=true)
    (c1:¬(1:Int)<0)
    (c2:(IntKind.i64.wrap (((p:Nat):Int) - (IntKind.i64.wrap ((Int.fdiv (IntKind.u64.wrap ((IntKind.i64.wrap (((i:Nat):Int)+((j:Nat):Int))))) (2 ^ (min (Int.toNat 1) 64)))))))=((k1:Nat):Int))
    (c3:k1<n)
    (c4:(rf n f)[k1]? = some [C.d (D.str ((f k1).s.name)),C.d (D.int .i64 ((f k1).s.sect)),C.d (D.int .i64 ((f k1).s.value)),C.d (D.bool ((f k1).s.glob)),C.d (D.int .i64 ((f k1).n))])
    (c5:(IntKind.i64.wrap ((Int.fdiv (IntKind.u64.wrap ((IntKind.i64.wrap (((i:Nat):Int)+((j:Nat):Int))))) (2 ^ (min (Int.toNat 1) 64)))))=((k2:Nat):Int))
    (c6:k2<n)
    (c7:(rf n f)[k2]? = some [C.d (D.str ((f k2).s.name)),C.d (D.int .i64 ((f k2).s.sect)),C.d (D.int .i64 ((f k2).s.value)),C.d (D.bool ((f k2).s.glob)),C.d (D.int .i64 ((f k2).n))])
    (c8:Rn pg 40 [V.d (D.agg [D.str ((f k1).s.name),D.int .i64 ((f k1).s.sect),D.int .i64 ((f k1).s.value),D.bool ((f k1).s.glob),D.int .i64 ((f k1).n)]),V.d (D.agg [D.str ((f k2).s.name),D.int .i64 ((f k2).s.sect),D.int .i64 ((f k2).s.value),D.bool ((f k2).s.glob),D.int .i64 ((f k2).n)])] ([]) (V.d (D.int .i64 (cmpN (f k1) (f k2)))) ([]))
    (c9:(!(decide ((cmpN (f k1) (f k2))<0)))=false) :
    Ev pg i73_l8 ⟨[(0,V.msl 1 18 [] 0 n),(1,V.d (D.int .i64 ((a:Nat):Int))),(2,V.d (D.int .i64 ((m:Nat):Int))),(3,V.d (D.int .i64 ((b:Nat):Int))),(4,V.fn 40 []),(18,V.d (D.int .i64 ((mid:Nat):Int))),(19,V.d (D.int .i64 ((nn:Nat):Int))),(20,V.d (D.int .i64 ((i:Nat):Int))),(21,V.d (D.int .i64 ((j:Nat):Int))),(22,V.d (D.int .i64 ((p:Nat):Int)))],[]::[(18,Ob.row false 5 true (rf n f))]::[]⟩ .normal ⟨[(0,V.msl 1 18 [] 0 n),(1,V.d (D.int .i64 ((a:Nat):Int))),(2,V.d (D.int .i64 ((m:Nat):Int))),(3,V.d (D.int .i64 ((b:Nat):Int))),(4,V.fn 40 []),(18,V.d (D.int .i64 ((mid:Nat):Int))),(19,V.d (D.int .i64 ((nn:Nat):Int))),(20,V.d (D.int .i64 ((i:Nat):Int))),(21,V.d (D.int .i64 (IntKind.i64.wrap ((Int.fdiv (IntKind.u64.wrap ((IntKind.i64.wrap (((i:Nat):Int)+((j:Nat):Int))))) (2 ^ (min (Int.toNat 1) 64))))))),(22,V.d (D.int .i64 ((p:Nat):Int)))],[]::[(18,Ob.row false 5 true (rf n f))]::[]⟩:=
  codeC_ok (hs:=[.b true, .n k1, .cs [C.d (D.str ((f k1).s.name)),C.d (D.int .i64 ((f k1).s.sect)),C.d (D.int .i64 ((f k1).s.value)),C.d (D.bool ((f k1).s.glob)),C.d (D.int .i64 ((f k1).n))], .n k2, .cs [C.d (D.str ((f k2).s.name)),C.d (D.int .i64 ((f k2).s.sect)),C.d (D.int .i64 ((f k2).s.value)),C.d (D.bool ((f k2).s.glob)),C.d (D.int .i64 ((f k2).n))], .call (V.d (D.int .i64 (cmpN (f k1) (f k2)))) ([]), .b false]) (hs':=[]) (cs:=[_,_,_,_,_,_,_,_,_,_]) (by kernel_rfl) ⟨c0,c1,c2,c3,c4,c5,c6,c7,c8,c9,trivial⟩
theorem w73e_2 (n:Nat) (f:Nat→TNum) (a:Nat) (m:Nat) (b:Nat) (mid:Nat) (nn:Nat) (i:Nat) (j:Nat) (p:Nat) (k1:Nat) (k2:Nat)
    (c0:(decide (((i:Nat):Int)<((j:Nat):Int)))=true)
    (c1:¬(1:Int)<0)
    (c2:(IntKind.i64.wrap (((p:Nat):Int) - (IntKind.i64.wrap ((Int.fdiv (IntKind.u64.wrap ((IntKind.i64.wrap (((i:Nat):Int)+((j:Nat):Int))))) (2 ^ (min (Int.toNat 1) 64)))))))=((k1:Nat):Int))
    (c3:k1<n)
    (c4:(rf n f)[k1]? = some [C.d (D.str ((f k1).s.name)),C.d (D.int .i64 ((f k1).s.sect)),C.d (D.int .i64 ((f k1).s.value)),C.d (D.bool ((f k1).s.glob)),C.d (D.int .i64 ((f k1).n))])
    (c5:(IntKind.i64.wrap ((Int.fdiv (IntKind.u64.wrap ((IntKind.i64.wrap (((i:Nat):Int)+((j:Nat):Int))))) (2 ^ (min (Int.toNat 1) 64)))))=((k2:Nat):Int))
    (c6:k2<n)
    (c7:(rf n f)[k2]? = some [C.d (D.str ((f k2).s.name)),C.d (D.int .i64 ((f k2).s.sect)),C.d (D.int .i64 ((f k2).s.value)),C.d (D.bool ((f k2).s.glob)),C.d (D.int .i64 ((f k2).n))])
    (c8:Rn pg 40 [V.d (D.agg [D.str ((f k1).s.name),D.int .i64 ((f k1).s.sect),D.int .i64 ((f k1).s.value),D.bool ((f k1).s.glob),D.int .i64 ((f k1).n)]),V.d (D.agg [D.str ((f k2).s.name),D.int .i64 ((f k2).s.sect),D.int .i64 ((f k2).s.value),D.bool ((f k2).s.glob),D.int .i64 ((f k2).n)])] ([]) (V.d (D.int .i64 (cmpN (f k1) (f k2)))) ([]))
    (c9:(!(decide ((cmpN (f k1) (f k2))<0)))=true) :
    Ev pg i73_l8 ⟨[(0,V.msl 1 18 [] 0 n),(1,V.d (D.int .i64 ((a:Nat):Int))),(2,V.d (D.int .i64 ((m:Nat):Int))),(3,V.d (D.int .i64 ((b:Nat):Int))),(4,V.fn 40 []),(18,V.d (D.int .i64 ((mid:Nat):Int))),(19,V.d (D.int .i64 ((nn:Nat):Int))),(20,V.d (D.int .i64 ((i:Nat):Int))),(21,V.d (D.int .i64 ((j:Nat):Int))),(22,V.d (D.int .i64 ((p:Nat):Int)))],[]::[(18,Ob.row false 5 true (rf n f))]::[]⟩ .normal ⟨[(0,V.msl 1 18 [] 0 n),(1,V.d (D.int .i64 ((a:Nat):Int))),(2,V.d (D.int .i64 ((m:Nat):Int))),(3,V.d (D.int .i64 ((b:Nat):Int))),(4,V.fn 40 []),(18,V.d (D.int .i64 ((mid:Nat):Int))),(19,V.d (D.int .i64 ((nn:Nat):Int))),(20,V.d (D.int .i64 (IntKind.i64.wrap ((IntKind.i64.wrap ((Int.fdiv (IntKind.u64.wrap ((IntKind.i64.wrap (((i:Nat):Int)+((j:Nat):Int))))) (2 ^ (min (Int.toNat 1) 64)))))+1)))),(21,V.d (D.int .i64 ((j:Nat):Int))),(22,V.d (D.int .i64 ((p:Nat):Int)))],[]::[(18,Ob.row false 5 true (rf n f))]::[]⟩:=
  codeC_ok (hs:=[.b true, .n k1, .cs [C.d (D.str ((f k1).s.name)),C.d (D.int .i64 ((f k1).s.sect)),C.d (D.int .i64 ((f k1).s.value)),C.d (D.bool ((f k1).s.glob)),C.d (D.int .i64 ((f k1).n))], .n k2, .cs [C.d (D.str ((f k2).s.name)),C.d (D.int .i64 ((f k2).s.sect)),C.d (D.int .i64 ((f k2).s.value)),C.d (D.bool ((f k2).s.glob)),C.d (D.int .i64 ((f k2).n))], .call (V.d (D.int .i64 (cmpN (f k1) (f k2)))) ([]), .b true]) (hs':=[]) (cs:=[_,_,_,_,_,_,_,_,_,_]) (by kernel_rfl) ⟨c0,c1,c2,c3,c4,c5,c6,c7,c8,c9,trivial⟩
theorem w73f_0 (n:Nat) (f:Nat→TNum) (a:Nat) (m:Nat) (b:Nat)
    (c0:((IntKind.i64.wrap (((m:Nat):Int) - ((a:Nat):Int)))==1)=false) :
    Ev pg i73_x0 ⟨[(0,V.msl 1 18 [] 0 n),(1,V.d (D.int .i64 ((a:Nat):Int))),(2,V.d (D.int .i64 ((m:Nat):Int))),(3,V.d (D.int .i64 ((b:Nat):Int))),(4,V.fn 40 [])],[]::[(18,Ob.row false 5 true (rf n f))]::[]⟩ .normal ⟨[(0,V.msl 1 18 [] 0 n),(1,V.d (D.int .i64 ((a:Nat):Int))),(2,V.d (D.int .i64 ((m:Nat):Int))),(3,V.d (D.int .i64 ((b:Nat):Int))),(4,V.fn 40 []),(28,V.d (D.bool false))],[]::[(18,Ob.row false 5 true (rf n f))]::[]⟩:=
  by
  have r:Ev pg i73_x0 ⟨[(0,V.msl 1 18 [] 0 n),(1,V.d (D.int .i64 ((a:Nat):Int))),(2,V.d (D.int .i64 ((m:Nat):Int))),(3,V.d (D.int .i64 ((b:Nat):Int))),(4,V.fn 40 [])],[]::[(18,Ob.row false 5 true (rf n f))]::[]⟩ .normal ⟨[(0,V.msl 1 18 [] 0 n),(1,V.d (D.int .i64 ((a:Nat):Int))),(2,V.d (D.int .i64 ((m:Nat):Int))),(3,V.d (D.int .i64 ((b:Nat):Int))),(4,V.fn 40 []),(28,V.d (D.bool ((IntKind.i64.wrap (((m:Nat):Int) - ((a:Nat):Int)))==1)))],[]::[(18,Ob.row false 5 true (rf n f))]::[]⟩:=
  codeC_ok (hs:=[.b false]) (hs':=[]) (cs:=[_]) (by kernel_rfl) ⟨c0,trivial⟩
  simp only [c0] at r
  exact r
theorem w73f_1 (n:Nat) (f:Nat→TNum) (a:Nat) (m:Nat) (b:Nat) (i1:Nat) (k2:Nat) (g3:Nat→TNum)
    (c0:((IntKind.i64.wrap (((m:Nat):Int) - ((a:Nat):Int)))==1)=true)
    (c1:Lp pg i73_l0 ⟨[(0,V.msl 1 18 [] 0 n),(1,V.d (D.int .i64 ((a:Nat):Int))),(4,V.fn 40 []),(10,V.d (D.int .i64 ((m:Nat):Int))),(11,V.d (D.int .i64 ((b:Nat):Int)))],[]::[(18,Ob.row false 5 true (rf n f))]::[]⟩ (.exit 0) ⟨[(0,V.msl 1 18 [] 0 n),(1,V.d (D.int .i64 ((a:Nat):Int))),(4,V.fn 40 []),(10,V.d (D.int .i64 ((i1:Nat):Int))),(11,V.d (D.int .i64 ((i1:Nat):Int))),(33,V.d (D.bool false))],[]::[(18,Ob.row false 5 true (rf n f))]::[]⟩)
    (c2:Lp pg i73_l2 ⟨[(0,V.msl 1 18 [] 0 n),(10,V.d (D.int .i64 ((i1:Nat):Int))),(13,V.d (D.int .i64 ((a:Nat):Int)))],[]::[(18,Ob.row false 5 true (rf n f))]::[]⟩ (.exit 2) ⟨[(0,V.msl 1 18 [] 0 n),(10,V.d (D.int .i64 ((i1:Nat):Int))),(13,V.d (D.int .i64 ((k2:Nat):Int))),(58,V.d (D.bool false))],[]::[(18,Ob.row false 5 true (rf n g3))]::[]⟩) :
    Ev pg i73_x0 ⟨[(0,V.msl 1 18 [] 0 n),(1,V.d (D.int .i64 ((a:Nat):Int))),(2,V.d (D.int .i64 ((m:Nat):Int))),(3,V.d (D.int .i64 ((b:Nat):Int))),(4,V.fn 40 [])],[]::[(18,Ob.row false 5 true (rf n f))]::[]⟩ .ret ⟨[(0,V.msl 1 18 [] 0 n),(10,V.d (D.int .i64 ((i1:Nat):Int))),(13,V.d (D.int .i64 ((k2:Nat):Int))),(58,V.d (D.bool false))],[]::[(18,Ob.row false 5 true (rf n g3))]::[]⟩:=
  codeC_ok (hs:=[.b true, .lp (.exit 0) ⟨[(0,V.msl 1 18 [] 0 n),(1,V.d (D.int .i64 ((a:Nat):Int))),(4,V.fn 40 []),(10,V.d (D.int .i64 ((i1:Nat):Int))),(11,V.d (D.int .i64 ((i1:Nat):Int))),(33,V.d (D.bool false))],[]::[(18,Ob.row false 5 true (rf n f))]::[]⟩, .lp (.exit 2) ⟨[(0,V.msl 1 18 [] 0 n),(10,V.d (D.int .i64 ((i1:Nat):Int))),(13,V.d (D.int .i64 ((k2:Nat):Int))),(58,V.d (D.bool false))],[]::[(18,Ob.row false 5 true (rf n g3))]::[]⟩]) (hs':=[]) (cs:=[_,_,_]) (by kernel_rfl) ⟨c0,c1,c2,trivial⟩
theorem w73g_0 (n:Nat) (f:Nat→TNum) (a:Nat) (m:Nat) (b:Nat)
    (c0:((IntKind.i64.wrap (((b:Nat):Int) - ((m:Nat):Int)))==1)=false) :
    Ev pg i73_x1 ⟨[(0,V.msl 1 18 [] 0 n),(1,V.d (D.int .i64 ((a:Nat):Int))),(2,V.d (D.int .i64 ((m:Nat):Int))),(3,V.d (D.int .i64 ((b:Nat):Int))),(4,V.fn 40 []),(28,V.d (D.bool false))],[]::[(18,Ob.row false 5 true (rf n f))]::[]⟩ .normal ⟨[(0,V.msl 1 18 [] 0 n),(1,V.d (D.int .i64 ((a:Nat):Int))),(2,V.d (D.int .i64 ((m:Nat):Int))),(3,V.d (D.int .i64 ((b:Nat):Int))),(4,V.fn 40 []),(80,V.d (D.bool false))],[]::[(18,Ob.row false 5 true (rf n f))]::[]⟩:=
  by
  have r:Ev pg i73_x1 ⟨[(0,V.msl 1 18 [] 0 n),(1,V.d (D.int .i64 ((a:Nat):Int))),(2,V.d (D.int .i64 ((m:Nat):Int))),(3,V.d (D.int .i64 ((b:Nat):Int))),(4,V.fn 40 []),(28,V.d (D.bool false))],[]::[(18,Ob.row false 5 true (rf n f))]::[]⟩ .normal ⟨[(0,V.msl 1 18 [] 0 n),(1,V.d (D.int .i64 ((a:Nat):Int))),(2,V.d (D.int .i64 ((m:Nat):Int))),(3,V.d (D.int .i64 ((b:Nat):Int))),(4,V.fn 40 []),(80,V.d (D.bool ((IntKind.i64.wrap (((b:Nat):Int) - ((m:Nat):Int)))==1)))],[]::[(18,Ob.row false 5 true (rf n f))]::[]⟩:=
  codeC_ok (hs:=[.b false]) (hs':=[]) (cs:=[_]) (by kernel_rfl) ⟨c0,trivial⟩
  simp only [c0] at r
  exact r
theorem w73g_1 (n:Nat) (f:Nat→TNum) (a:Nat) (m:Nat) (b:Nat) (i1:Nat) (k2:Nat) (g3:Nat→TNum)
    (c0:((IntKind.i64.wrap (((b:Nat):Int) - ((m:Nat):Int)))==1)=true)
    (c1:Lp pg i73_l4 ⟨[(0,V.msl 1 18 [] 0 n),(2,V.d (D.int .i64 ((m:Nat):Int))),(4,V.fn 40 []),(14,V.d (D.int .i64 ((a:Nat):Int))),(15,V.d (D.int .i64 ((m:Nat):Int)))],[]::[(18,Ob.row false 5 true (rf n f))]::[]⟩ (.exit 4) ⟨[(0,V.msl 1 18 [] 0 n),(2,V.d (D.int .i64 ((m:Nat):Int))),(4,V.fn 40 []),(14,V.d (D.int .i64 ((i1:Nat):Int))),(15,V.d (D.int .i64 ((i1:Nat):Int))),(85,V.d (D.bool false))],[]::[(18,Ob.row false 5 true (rf n f))]::[]⟩)
    (c2:Lp pg i73_l6 ⟨[(0,V.msl 1 18 [] 0 n),(14,V.d (D.int .i64 ((i1:Nat):Int))),(17,V.d (D.int .i64 ((m:Nat):Int)))],[]::[(18,Ob.row false 5 true (rf n f))]::[]⟩ (.exit 6) ⟨[(0,V.msl 1 18 [] 0 n),(14,V.d (D.int .i64 ((i1:Nat):Int))),(17,V.d (D.int .i64 ((k2:Nat):Int))),(110,V.d (D.bool false))],[]::[(18,Ob.row false 5 true (rf n g3))]::[]⟩) :
    Ev pg i73_x1 ⟨[(0,V.msl 1 18 [] 0 n),(1,V.d (D.int .i64 ((a:Nat):Int))),(2,V.d (D.int .i64 ((m:Nat):Int))),(3,V.d (D.int .i64 ((b:Nat):Int))),(4,V.fn 40 []),(28,V.d (D.bool false))],[]::[(18,Ob.row false 5 true (rf n f))]::[]⟩ .ret ⟨[(0,V.msl 1 18 [] 0 n),(14,V.d (D.int .i64 ((i1:Nat):Int))),(17,V.d (D.int .i64 ((k2:Nat):Int))),(110,V.d (D.bool false))],[]::[(18,Ob.row false 5 true (rf n g3))]::[]⟩:=
  codeC_ok (hs:=[.b true, .lp (.exit 4) ⟨[(0,V.msl 1 18 [] 0 n),(2,V.d (D.int .i64 ((m:Nat):Int))),(4,V.fn 40 []),(14,V.d (D.int .i64 ((i1:Nat):Int))),(15,V.d (D.int .i64 ((i1:Nat):Int))),(85,V.d (D.bool false))],[]::[(18,Ob.row false 5 true (rf n f))]::[]⟩, .lp (.exit 6) ⟨[(0,V.msl 1 18 [] 0 n),(14,V.d (D.int .i64 ((i1:Nat):Int))),(17,V.d (D.int .i64 ((k2:Nat):Int))),(110,V.d (D.bool false))],[]::[(18,Ob.row false 5 true (rf n g3))]::[]⟩]) (hs':=[]) (cs:=[_,_,_]) (by kernel_rfl) ⟨c0,c1,c2,trivial⟩
theorem w73h_0 (n:Nat) (f:Nat→TNum) (a:Nat) (m:Nat) (b:Nat) (i1:Nat)
    (c0:¬(1:Int)<0)
    (c1:(decide (((m:Nat):Int) > (IntKind.i64.wrap ((Int.fdiv (IntKind.u64.wrap ((IntKind.i64.wrap (((a:Nat):Int)+((b:Nat):Int))))) (2 ^ (min (Int.toNat 1) 64)))))))=false)
    (c2:Lp pg i73_l8 ⟨[(0,V.msl 1 18 [] 0 n),(1,V.d (D.int .i64 ((a:Nat):Int))),(2,V.d (D.int .i64 ((m:Nat):Int))),(3,V.d (D.int .i64 ((b:Nat):Int))),(4,V.fn 40 []),(18,V.d (D.int .i64 (IntKind.i64.wrap ((Int.fdiv (IntKind.u64.wrap ((IntKind.i64.wrap (((a:Nat):Int)+((b:Nat):Int))))) (2 ^ (min (Int.toNat 1) 64))))))),(19,V.d (D.int .i64 (IntKind.i64.wrap ((IntKind.i64.wrap ((Int.fdiv (IntKind.u64.wrap ((IntKind.i64.wrap (((a:Nat):Int)+((b:Nat):Int))))) (2 ^ (min (Int.toNat 1) 64)))))+((m:Nat):Int))))),(20,V.d (D.int .i64 ((a:Nat):Int))),(21,V.d (D.int .i64 ((m:Nat):Int))),(22,V.d (D.int .i64 (IntKind.i64.wrap ((IntKind.i64.wrap ((IntKind.i64.wrap ((Int.fdiv (IntKind.u64.wrap ((IntKind.i64.wrap (((a:Nat):Int)+((b:Nat):Int))))) (2 ^ (min (Int.toNat 1) 64)))))+((m:Nat):Int))) - 1))))],[]::[(18,Ob.row false 5 true (rf n f))]::[]⟩ (.exit 8) ⟨[(0,V.msl 1 18 [] 0 n),(1,V.d (D.int .i64 ((a:Nat):Int))),(2,V.d (D.int .i64 ((m:Nat):Int))),(3,V.d (D.int .i64 ((b:Nat):Int))),(4,V.fn 40 []),(18,V.d (D.int .i64 (IntKind.i64.wrap ((Int.fdiv (IntKind.u64.wrap ((IntKind.i64.wrap (((a:Nat):Int)+((b:Nat):Int))))) (2 ^ (min (Int.toNat 1) 64))))))),(19,V.d (D.int .i64 (IntKind.i64.wrap ((IntKind.i64.wrap ((Int.fdiv (IntKind.u64.wrap ((IntKind.i64.wrap (((a:Nat):Int)+((b:Nat):Int))))) (2 ^ (min (Int.toNat 1) 64)))))+((m:Nat):Int))))),(20,V.d (D.int .i64 ((i1:Nat):Int))),(21,V.d (D.int .i64 ((i1:Nat):Int))),(22,V.d (D.int .i64 (IntKind.i64.wrap ((IntKind.i64.wrap ((IntKind.i64.wrap ((Int.fdiv (IntKind.u64.wrap ((IntKind.i64.wrap (((a:Nat):Int)+((b:Nat):Int))))) (2 ^ (min (Int.toNat 1) 64)))))+((m:Nat):Int))) - 1)))),(151,V.d (D.bool false))],[]::[(18,Ob.row false 5 true (rf n f))]::[]⟩) :
    Ev pg i73_x2 ⟨[(0,V.msl 1 18 [] 0 n),(1,V.d (D.int .i64 ((a:Nat):Int))),(2,V.d (D.int .i64 ((m:Nat):Int))),(3,V.d (D.int .i64 ((b:Nat):Int))),(4,V.fn 40 []),(80,V.d (D.bool false))],[]::[(18,Ob.row false 5 true (rf n f))]::[]⟩ .normal ⟨[(0,V.msl 1 18 [] 0 n),(1,V.d (D.int .i64 ((a:Nat):Int))),(2,V.d (D.int .i64 ((m:Nat):Int))),(3,V.d (D.int .i64 ((b:Nat):Int))),(4,V.fn 40 []),(18,V.d (D.int .i64 (IntKind.i64.wrap ((Int.fdiv (IntKind.u64.wrap ((IntKind.i64.wrap (((a:Nat):Int)+((b:Nat):Int))))) (2 ^ (min (Int.toNat 1) 64))))))),(20,V.d (D.int .i64 ((i1:Nat):Int))),(24,V.d (D.int .i64 (IntKind.i64.wrap ((IntKind.i64.wrap ((IntKind.i64.wrap ((Int.fdiv (IntKind.u64.wrap ((IntKind.i64.wrap (((a:Nat):Int)+((b:Nat):Int))))) (2 ^ (min (Int.toNat 1) 64)))))+((m:Nat):Int))) - ((i1:Nat):Int)))))],[]::[(18,Ob.row false 5 true (rf n f))]::[]⟩:=
  codeC_ok (hs:=[.b false, .lp (.exit 8) ⟨[(0,V.msl 1 18 [] 0 n),(1,V.d (D.int .i64 ((a:Nat):Int))),(2,V.d (D.int .i64 ((m:Nat):Int))),(3,V.d (D.int .i64 ((b:Nat):Int))),(4,V.fn 40 []),(18,V.d (D.int .i64 (IntKind.i64.wrap ((Int.fdiv (IntKind.u64.wrap ((IntKind.i64.wrap (((a:Nat):Int)+((b:Nat):Int))))) (2 ^ (min (Int.toNat 1) 64))))))),(19,V.d (D.int .i64 (IntKind.i64.wrap ((IntKind.i64.wrap ((Int.fdiv (IntKind.u64.wrap ((IntKind.i64.wrap (((a:Nat):Int)+((b:Nat):Int))))) (2 ^ (min (Int.toNat 1) 64)))))+((m:Nat):Int))))),(20,V.d (D.int .i64 ((i1:Nat):Int))),(21,V.d (D.int .i64 ((i1:Nat):Int))),(22,V.d (D.int .i64 (IntKind.i64.wrap ((IntKind.i64.wrap ((IntKind.i64.wrap ((Int.fdiv (IntKind.u64.wrap ((IntKind.i64.wrap (((a:Nat):Int)+((b:Nat):Int))))) (2 ^ (min (Int.toNat 1) 64)))))+((m:Nat):Int))) - 1)))),(151,V.d (D.bool false))],[]::[(18,Ob.row false 5 true (rf n f))]::[]⟩]) (hs':=[]) (cs:=[_,_,_]) (by kernel_rfl) ⟨c0,c1,c2,trivial⟩
theorem w73h_1 (n:Nat) (f:Nat→TNum) (a:Nat) (m:Nat) (b:Nat) (i1:Nat)
    (c0:¬(1:Int)<0)
    (c1:(decide (((m:Nat):Int) > (IntKind.i64.wrap ((Int.fdiv (IntKind.u64.wrap ((IntKind.i64.wrap (((a:Nat):Int)+((b:Nat):Int))))) (2 ^ (min (Int.toNat 1) 64)))))))=true)
    (c2:Lp pg i73_l8 ⟨[(0,V.msl 1 18 [] 0 n),(1,V.d (D.int .i64 ((a:Nat):Int))),(2,V.d (D.int .i64 ((m:Nat):Int))),(3,V.d (D.int .i64 ((b:Nat):Int))),(4,V.fn 40 []),(18,V.d (D.int .i64 (IntKind.i64.wrap ((Int.fdiv (IntKind.u64.wrap ((IntKind.i64.wrap (((a:Nat):Int)+((b:Nat):Int))))) (2 ^ (min (Int.toNat 1) 64))))))),(19,V.d (D.int .i64 (IntKind.i64.wrap ((IntKind.i64.wrap ((Int.fdiv (IntKind.u64.wrap ((IntKind.i64.wrap (((a:Nat):Int)+((b:Nat):Int))))) (2 ^ (min (Int.toNat 1) 64)))))+((m:Nat):Int))))),(20,V.d (D.int .i64 (IntKind.i64.wrap ((IntKind.i64.wrap ((IntKind.i64.wrap ((Int.fdiv (IntKind.u64.wrap ((IntKind.i64.wrap (((a:Nat):Int)+((b:Nat):Int))))) (2 ^ (min (Int.toNat 1) 64)))))+((m:Nat):Int))) - ((b:Nat):Int))))),(21,V.d (D.int .i64 (IntKind.i64.wrap ((Int.fdiv (IntKind.u64.wrap ((IntKind.i64.wrap (((a:Nat):Int)+((b:Nat):Int))))) (2 ^ (min (Int.toNat 1) 64))))))),(22,V.d (D.int .i64 (IntKind.i64.wrap ((IntKind.i64.wrap ((IntKind.i64.wrap ((Int.fdiv (IntKind.u64.wrap ((IntKind.i64.wrap (((a:Nat):Int)+((b:Nat):Int))))) (2 ^ (min (Int.toNat 1) 64)))))+((m:Nat):Int))) - 1))))],[]::[(18,Ob.row false 5 true (rf n f))]::[]⟩ (.exit 8) ⟨[(0,V.msl 1 18 [] 0 n),(1,V.d (D.int .i64 ((a:Nat):Int))),(2,V.d (D.int .i64 ((m:Nat):Int))),(3,V.d (D.int .i64 ((b:Nat):Int))),(4,V.fn 40 []),(18,V.d (D.int .i64 (IntKind.i64.wrap ((Int.fdiv (IntKind.u64.wrap ((IntKind.i64.wrap (((a:Nat):Int)+((b:Nat):Int))))) (2 ^ (min (Int.toNat 1) 64))))))),(19,V.d (D.int .i64 (IntKind.i64.wrap ((IntKind.i64.wrap ((Int.fdiv (IntKind.u64.wrap ((IntKind.i64.wrap (((a:Nat):Int)+((b:Nat):Int))))) (2 ^ (min (Int.toNat 1) 64)))))+((m:Nat):Int))))),(20,V.d (D.int .i64 ((i1:Nat):Int))),(21,V.d (D.int .i64 ((i1:Nat):Int))),(22,V.d (D.int .i64 (IntKind.i64.wrap ((IntKind.i64.wrap ((IntKind.i64.wrap ((Int.fdiv (IntKind.u64.wrap ((IntKind.i64.wrap (((a:Nat):Int)+((b:Nat):Int))))) (2 ^ (min (Int.toNat 1) 64)))))+((m:Nat):Int))) - 1)))),(151,V.d (D.bool false))],[]::[(18,Ob.row false 5 true (rf n f))]::[]⟩) :
    Ev pg i73_x2 ⟨[(0,V.msl 1 18 [] 0 n),(1,V.d (D.int .i64 ((a:Nat):Int))),(2,V.d (D.int .i64 ((m:Nat):Int))),(3,V.d (D.int .i64 ((b:Nat):Int))),(4,V.fn 40 []),(80,V.d (D.bool false))],[]::[(18,Ob.row false 5 true (rf n f))]::[]⟩ .normal ⟨[(0,V.msl 1 18 [] 0 n),(1,V.d (D.int .i64 ((a:Nat):Int))),(2,V.d (D.int .i64 ((m:Nat):Int))),(3,V.d (D.int .i64 ((b:Nat):Int))),(4,V.fn 40 []),(18,V.d (D.int .i64 (IntKind.i64.wrap ((Int.fdiv (IntKind.u64.wrap ((IntKind.i64.wrap (((a:Nat):Int)+((b:Nat):Int))))) (2 ^ (min (Int.toNat 1) 64))))))),(20,V.d (D.int .i64 ((i1:Nat):Int))),(24,V.d (D.int .i64 (IntKind.i64.wrap ((IntKind.i64.wrap ((IntKind.i64.wrap ((Int.fdiv (IntKind.u64.wrap ((IntKind.i64.wrap (((a:Nat):Int)+((b:Nat):Int))))) (2 ^ (min (Int.toNat 1) 64)))))+((m:Nat):Int))) - ((i1:Nat):Int)))))],[]::[(18,Ob.row false 5 true (rf n f))]::[]⟩:=
  codeC_ok (hs:=[.b true, .lp (.exit 8) ⟨[(0,V.msl 1 18 [] 0 n),(1,V.d (D.int .i64 ((a:Nat):Int))),(2,V.d (D.int .i64 ((m:Nat):Int))),(3,V.d (D.int .i64 ((b:Nat):Int))),(4,V.fn 40 []),(18,V.d (D.int .i64 (IntKind.i64.wrap ((Int.fdiv (IntKind.u64.wrap ((IntKind.i64.wrap (((a:Nat):Int)+((b:Nat):Int))))) (2 ^ (min (Int.toNat 1) 64))))))),(19,V.d (D.int .i64 (IntKind.i64.wrap ((IntKind.i64.wrap ((Int.fdiv (IntKind.u64.wrap ((IntKind.i64.wrap (((a:Nat):Int)+((b:Nat):Int))))) (2 ^ (min (Int.toNat 1) 64)))))+((m:Nat):Int))))),(20,V.d (D.int .i64 ((i1:Nat):Int))),(21,V.d (D.int .i64 ((i1:Nat):Int))),(22,V.d (D.int .i64 (IntKind.i64.wrap ((IntKind.i64.wrap ((IntKind.i64.wrap ((Int.fdiv (IntKind.u64.wrap ((IntKind.i64.wrap (((a:Nat):Int)+((b:Nat):Int))))) (2 ^ (min (Int.toNat 1) 64)))))+((m:Nat):Int))) - 1)))),(151,V.d (D.bool false))],[]::[(18,Ob.row false 5 true (rf n f))]::[]⟩]) (hs':=[]) (cs:=[_,_,_]) (by kernel_rfl) ⟨c0,c1,c2,trivial⟩
theorem w73i_0 (n:Nat) (f:Nat→TNum) (a:Nat) (m:Nat) (b:Nat) (mid:Nat) (s:Nat) (e:Nat)
    (c0:(decide (((s:Nat):Int)<((m:Nat):Int)))=false) :
    Ev pg i73_x3 ⟨[(0,V.msl 1 18 [] 0 n),(1,V.d (D.int .i64 ((a:Nat):Int))),(2,V.d (D.int .i64 ((m:Nat):Int))),(3,V.d (D.int .i64 ((b:Nat):Int))),(4,V.fn 40 []),(18,V.d (D.int .i64 ((mid:Nat):Int))),(20,V.d (D.int .i64 ((s:Nat):Int))),(24,V.d (D.int .i64 ((e:Nat):Int)))],[]::[(18,Ob.row false 5 true (rf n f))]::[]⟩ .normal ⟨[(0,V.msl 1 18 [] 0 n),(1,V.d (D.int .i64 ((a:Nat):Int))),(2,V.d (D.int .i64 ((m:Nat):Int))),(3,V.d (D.int .i64 ((b:Nat):Int))),(4,V.fn 40 []),(18,V.d (D.int .i64 ((mid:Nat):Int))),(20,V.d (D.int .i64 ((s:Nat):Int))),(24,V.d (D.int .i64 ((e:Nat):Int))),(185,V.d (D.bool false))],[]::[(18,Ob.row false 5 true (rf n f))]::[]⟩:=
  codeC_ok (hs:=[.b false, .b false, .b false, .b false, .b false]) (hs':=[]) (cs:=[_,_,_,_,false=false]) (by kernel_rfl) ⟨c0,c0,c0,c0,rfl,trivial⟩
theorem w73i_1 (n:Nat) (f:Nat→TNum) (a:Nat) (m:Nat) (b:Nat) (mid:Nat) (s:Nat) (e:Nat)
    (c0:(decide (((s:Nat):Int)<((m:Nat):Int)))=true)
    (c1:(decide (((m:Nat):Int)<((e:Nat):Int)))=false) :
    Ev pg i73_x3 ⟨[(0,V.msl 1 18 [] 0 n),(1,V.d (D.int .i64 ((a:Nat):Int))),(2,V.d (D.int .i64 ((m:Nat):Int))),(3,V.d (D.int .i64 ((b:Nat):Int))),(4,V.fn 40 []),(18,V.d (D.int .i64 ((mid:Nat):Int))),(20,V.d (D.int .i64 ((s:Nat):Int))),(24,V.d (D.int .i64 ((e:Nat):Int)))],[]::[(18,Ob.row false 5 true (rf n f))]::[]⟩ .normal ⟨[(0,V.msl 1 18 [] 0 n),(1,V.d (D.int .i64 ((a:Nat):Int))),(2,V.d (D.int .i64 ((m:Nat):Int))),(3,V.d (D.int .i64 ((b:Nat):Int))),(4,V.fn 40 []),(18,V.d (D.int .i64 ((mid:Nat):Int))),(20,V.d (D.int .i64 ((s:Nat):Int))),(24,V.d (D.int .i64 ((e:Nat):Int))),(185,V.d (D.bool false))],[]::[(18,Ob.row false 5 true (rf n f))]::[]⟩:=
  by
  have r:Ev pg i73_x3 ⟨[(0,V.msl 1 18 [] 0 n),(1,V.d (D.int .i64 ((a:Nat):Int))),(2,V.d (D.int .i64 ((m:Nat):Int))),(3,V.d (D.int .i64 ((b:Nat):Int))),(4,V.fn 40 []),(18,V.d (D.int .i64 ((mid:Nat):Int))),(20,V.d (D.int .i64 ((s:Nat):Int))),(24,V.d (D.int .i64 ((e:Nat):Int)))],[]::[(18,Ob.row false 5 true (rf n f))]::[]⟩ .normal ⟨[(0,V.msl 1 18 [] 0 n),(1,V.d (D.int .i64 ((a:Nat):Int))),(2,V.d (D.int .i64 ((m:Nat):Int))),(3,V.d (D.int .i64 ((b:Nat):Int))),(4,V.fn 40 []),(18,V.d (D.int .i64 ((mid:Nat):Int))),(20,V.d (D.int .i64 ((s:Nat):Int))),(24,V.d (D.int .i64 ((e:Nat):Int))),(185,V.d (D.bool (decide (((m:Nat):Int)<((e:Nat):Int)))))],[]::[(18,Ob.row false 5 true (rf n f))]::[]⟩:=
  codeC_ok (hs:=[.b true, .b true, .b true, .b true, .b false]) (hs':=[]) (cs:=[_,_,_,_,_]) (by kernel_rfl) ⟨c0,c0,c0,c0,c1,trivial⟩
  simp only [c1] at r
  exact r
theorem w73i_2 (n:Nat) (f:Nat→TNum) (a:Nat) (m:Nat) (b:Nat) (mid:Nat) (s:Nat) (e:Nat) (g1:Nat→TNum)
    (c0:(decide (((s:Nat):Int)<((m:Nat):Int)))=true)
    (c1:(decide (((m:Nat):Int)<((e:Nat):Int)))=true)
    (c2:Rn pg 77 [V.msl 0 18 [] 0 n,V.d (D.int .i64 ((s:Nat):Int)),V.d (D.int .i64 ((m:Nat):Int)),V.d (D.int .i64 ((e:Nat):Int)),V.fn 40 []] [[(18,Ob.row false 5 true (rf n f))]] (V.tup []) [[(18,Ob.row false 5 true (rf n g1))]]) :
    Ev pg i73_x3 ⟨[(0,V.msl 1 18 [] 0 n),(1,V.d (D.int .i64 ((a:Nat):Int))),(2,V.d (D.int .i64 ((m:Nat):Int))),(3,V.d (D.int .i64 ((b:Nat):Int))),(4,V.fn 40 []),(18,V.d (D.int .i64 ((mid:Nat):Int))),(20,V.d (D.int .i64 ((s:Nat):Int))),(24,V.d (D.int .i64 ((e:Nat):Int)))],[]::[(18,Ob.row false 5 true (rf n f))]::[]⟩ .normal ⟨[(0,V.msl 1 18 [] 0 n),(1,V.d (D.int .i64 ((a:Nat):Int))),(3,V.d (D.int .i64 ((b:Nat):Int))),(4,V.fn 40 []),(18,V.d (D.int .i64 ((mid:Nat):Int))),(20,V.d (D.int .i64 ((s:Nat):Int))),(24,V.d (D.int .i64 ((e:Nat):Int)))],[]::[(18,Ob.row false 5 true (rf n g1))]::[]⟩:=
  codeC_ok (hs:=[.b true, .b true, .b true, .b true, .b true, .call (V.tup []) [[(18,Ob.row false 5 true (rf n g1))]]]) (hs':=[]) (cs:=[_,_,_,_,_,_]) (by kernel_rfl) ⟨c0,c0,c0,c0,c1,c2,trivial⟩
theorem w73j_0 (n:Nat) (f:Nat→TNum) (a:Nat) (b:Nat) (mid:Nat) (s:Nat) (e:Nat)
    (c0:(decide (((a:Nat):Int)<((s:Nat):Int)))=false) :
    Ev pg i73_x4 ⟨[(0,V.msl 1 18 [] 0 n),(1,V.d (D.int .i64 ((a:Nat):Int))),(3,V.d (D.int .i64 ((b:Nat):Int))),(4,V.fn 40 []),(18,V.d (D.int .i64 ((mid:Nat):Int))),(20,V.d (D.int .i64 ((s:Nat):Int))),(24,V.d (D.int .i64 ((e:Nat):Int)))],[]::[(18,Ob.row false 5 true (rf n f))]::[]⟩ .normal ⟨[(0,V.msl 1 18 [] 0 n),(1,V.d (D.int .i64 ((a:Nat):Int))),(3,V.d (D.int .i64 ((b:Nat):Int))),(4,V.fn 40 []),(18,V.d (D.int .i64 ((mid:Nat):Int))),(20,V.d (D.int .i64 ((s:Nat):Int))),(24,V.d (D.int .i64 ((e:Nat):Int))),(199,V.d (D.bool false))],[]::[(18,Ob.row false 5 true (rf n f))]::[]⟩:=
  codeC_ok (hs:=[.b false, .b false, .b false, .b false, .b false]) (hs':=[]) (cs:=[_,_,_,_,false=false]) (by kernel_rfl) ⟨c0,c0,c0,c0,rfl,trivial⟩
theorem w73j_1 (n:Nat) (f:Nat→TNum) (a:Nat) (b:Nat) (mid:Nat) (s:Nat) (e:Nat)
    (c0:(decide (((a:Nat):Int)<((s:Nat):Int)))=true)
    (c1:(decide (((s:Nat):Int)<((mid:Nat):Int)))=false) :
    Ev pg i73_x4 ⟨[(0,V.msl 1 18 [] 0 n),(1,V.d (D.int .i64 ((a:Nat):Int))),(3,V.d (D.int .i64 ((b:Nat):Int))),(4,V.fn 40 []),(18,V.d (D.int .i64 ((mid:Nat):Int))),(20,V.d (D.int .i64 ((s:Nat):Int))),(24,V.d (D.int .i64 ((e:Nat):Int)))],[]::[(18,Ob.row false 5 true (rf n f))]::[]⟩ .normal ⟨[(0,V.msl 1 18 [] 0 n),(1,V.d (D.int .i64 ((a:Nat):Int))),(3,V.d (D.int .i64 ((b:Nat):Int))),(4,V.fn 40 []),(18,V.d (D.int .i64 ((mid:Nat):Int))),(20,V.d (D.int .i64 ((s:Nat):Int))),(24,V.d (D.int .i64 ((e:Nat):Int))),(199,V.d (D.bool false))],[]::[(18,Ob.row false 5 true (rf n f))]::[]⟩:=
  by
  have r:Ev pg i73_x4 ⟨[(0,V.msl 1 18 [] 0 n),(1,V.d (D.int .i64 ((a:Nat):Int))),(3,V.d (D.int .i64 ((b:Nat):Int))),(4,V.fn 40 []),(18,V.d (D.int .i64 ((mid:Nat):Int))),(20,V.d (D.int .i64 ((s:Nat):Int))),(24,V.d (D.int .i64 ((e:Nat):Int)))],[]::[(18,Ob.row false 5 true (rf n f))]::[]⟩ .normal ⟨[(0,V.msl 1 18 [] 0 n),(1,V.d (D.int .i64 ((a:Nat):Int))),(3,V.d (D.int .i64 ((b:Nat):Int))),(4,V.fn 40 []),(18,V.d (D.int .i64 ((mid:Nat):Int))),(20,V.d (D.int .i64 ((s:Nat):Int))),(24,V.d (D.int .i64 ((e:Nat):Int))),(199,V.d (D.bool (decide (((s:Nat):Int)<((mid:Nat):Int)))))],[]::[(18,Ob.row false 5 true (rf n f))]::[]⟩:=
  codeC_ok (hs:=[.b true, .b true, .b true, .b true, .b false]) (hs':=[]) (cs:=[_,_,_,_,_]) (by kernel_rfl) ⟨c0,c0,c0,c0,c1,trivial⟩
  simp only [c1] at r
  exact r
theorem w73j_2 (n:Nat) (f:Nat→TNum) (a:Nat) (b:Nat) (mid:Nat) (s:Nat) (e:Nat) (g1:Nat→TNum)
    (c0:(decide (((a:Nat):Int)<((s:Nat):Int)))=true)
    (c1:(decide (((s:Nat):Int)<((mid:Nat):Int)))=true)
    (c2:Rn pg 73 [V.msl 0 18 [] 0 n,V.d (D.int .i64 ((a:Nat):Int)),V.d (D.int .i64 ((s:Nat):Int)),V.d (D.int .i64 ((mid:Nat):Int)),V.fn 40 []] [[(18,Ob.row false 5 true (rf n f))]] (V.tup []) [[(18,Ob.row false 5 true (rf n g1))]]) :
    Ev pg i73_x4 ⟨[(0,V.msl 1 18 [] 0 n),(1,V.d (D.int .i64 ((a:Nat):Int))),(3,V.d (D.int .i64 ((b:Nat):Int))),(4,V.fn 40 []),(18,V.d (D.int .i64 ((mid:Nat):Int))),(20,V.d (D.int .i64 ((s:Nat):Int))),(24,V.d (D.int .i64 ((e:Nat):Int)))],[]::[(18,Ob.row false 5 true (rf n f))]::[]⟩ .normal ⟨[(0,V.msl 1 18 [] 0 n),(3,V.d (D.int .i64 ((b:Nat):Int))),(4,V.fn 40 []),(18,V.d (D.int .i64 ((mid:Nat):Int))),(24,V.d (D.int .i64 ((e:Nat):Int)))],[]::[(18,Ob.row false 5 true (rf n g1))]::[]⟩:=
  codeC_ok (hs:=[.b true, .b true, .b true, .b true, .b true, .call (V.tup []) [[(18,Ob.row false 5 true (rf n g1))]]]) (hs':=[]) (cs:=[_,_,_,_,_,_]) (by kernel_rfl) ⟨c0,c0,c0,c0,c1,c2,trivial⟩
theorem w73J_0 (n:Nat) (f:Nat→TNum) (a:Nat) (m:Nat) (b:Nat) (mid:Nat) (s:Nat) (e:Nat)
    (c0:(decide (((a:Nat):Int)<((s:Nat):Int)))=false) :
    Ev pg i73_x4 ⟨[(0,V.msl 1 18 [] 0 n),(1,V.d (D.int .i64 ((a:Nat):Int))),(2,V.d (D.int .i64 ((m:Nat):Int))),(3,V.d (D.int .i64 ((b:Nat):Int))),(4,V.fn 40 []),(18,V.d (D.int .i64 ((mid:Nat):Int))),(20,V.d (D.int .i64 ((s:Nat):Int))),(24,V.d (D.int .i64 ((e:Nat):Int))),(185,V.d (D.bool false))],[]::[(18,Ob.row false 5 true (rf n f))]::[]⟩ .normal ⟨[(0,V.msl 1 18 [] 0 n),(1,V.d (D.int .i64 ((a:Nat):Int))),(3,V.d (D.int .i64 ((b:Nat):Int))),(4,V.fn 40 []),(18,V.d (D.int .i64 ((mid:Nat):Int))),(20,V.d (D.int .i64 ((s:Nat):Int))),(24,V.d (D.int .i64 ((e:Nat):Int))),(199,V.d (D.bool false))],[]::[(18,Ob.row false 5 true (rf n f))]::[]⟩:=
  codeC_ok (hs:=[.b false, .b false, .b false, .b false, .b false]) (hs':=[]) (cs:=[_,_,_,_,false=false]) (by kernel_rfl) ⟨c0,c0,c0,c0,rfl,trivial⟩
theorem w73J_1 (n:Nat) (f:Nat→TNum) (a:Nat) (m:Nat) (b:Nat) (mid:Nat) (s:Nat) (e:Nat)
    (c0:(decide (((a:Nat):Int)<((s:Nat):Int)))=true)
    (c1:(decide (((s:Nat):Int)<((mid:Nat):Int)))=false) :
    Ev pg i73_x4 ⟨[(0,V.msl 1 18 [] 0 n),(1,V.d (D.int .i64 ((a:Nat):Int))),(2,V.d (D.int .i64 ((m:Nat):Int))),(3,V.d (D.int .i64 ((b:Nat):Int))),(4,V.fn 40 []),(18,V.d (D.int .i64 ((mid:Nat):Int))),(20,V.d (D.int .i64 ((s:Nat):Int))),(24,V.d (D.int .i64 ((e:Nat):Int))),(185,V.d (D.bool false))],[]::[(18,Ob.row false 5 true (rf n f))]::[]⟩ .normal ⟨[(0,V.msl 1 18 [] 0 n),(1,V.d (D.int .i64 ((a:Nat):Int))),(3,V.d (D.int .i64 ((b:Nat):Int))),(4,V.fn 40 []),(18,V.d (D.int .i64 ((mid:Nat):Int))),(20,V.d (D.int .i64 ((s:Nat):Int))),(24,V.d (D.int .i64 ((e:Nat):Int))),(199,V.d (D.bool false))],[]::[(18,Ob.row false 5 true (rf n f))]::[]⟩:=
  by
  have r:Ev pg i73_x4 ⟨[(0,V.msl 1 18 [] 0 n),(1,V.d (D.int .i64 ((a:Nat):Int))),(2,V.d (D.int .i64 ((m:Nat):Int))),(3,V.d (D.int .i64 ((b:Nat):Int))),(4,V.fn 40 []),(18,V.d (D.int .i64 ((mid:Nat):Int))),(20,V.d (D.int .i64 ((s:Nat):Int))),(24,V.d (D.int .i64 ((e:Nat):Int))),(185,V.d (D.bool false))],[]::[(18,Ob.row false 5 true (rf n f))]::[]⟩ .normal ⟨[(0,V.msl 1 18 [] 0 n),(1,V.d (D.int .i64 ((a:Nat):Int))),(3,V.d (D.int .i64 ((b:Nat):Int))),(4,V.fn 40 []),(18,V.d (D.int .i64 ((mid:Nat):Int))),(20,V.d (D.int .i64 ((s:Nat):Int))),(24,V.d (D.int .i64 ((e:Nat):Int))),(199,V.d (D.bool (decide (((s:Nat):Int)<((mid:Nat):Int)))))],[]::[(18,Ob.row false 5 true (rf n f))]::[]⟩:=
  codeC_ok (hs:=[.b true, .b true, .b true, .b true, .b false]) (hs':=[]) (cs:=[_,_,_,_,_]) (by kernel_rfl) ⟨c0,c0,c0,c0,c1,trivial⟩
  simp only [c1] at r
  exact r
theorem w73J_2 (n:Nat) (f:Nat→TNum) (a:Nat) (m:Nat) (b:Nat) (mid:Nat) (s:Nat) (e:Nat) (g1:Nat→TNum)
    (c0:(decide (((a:Nat):Int)<((s:Nat):Int)))=true)
    (c1:(decide (((s:Nat):Int)<((mid:Nat):Int)))=true)
    (c2:Rn pg 73 [V.msl 0 18 [] 0 n,V.d (D.int .i64 ((a:Nat):Int)),V.d (D.int .i64 ((s:Nat):Int)),V.d (D.int .i64 ((mid:Nat):Int)),V.fn 40 []] [[(18,Ob.row false 5 true (rf n f))]] (V.tup []) [[(18,Ob.row false 5 true (rf n g1))]]) :
    Ev pg i73_x4 ⟨[(0,V.msl 1 18 [] 0 n),(1,V.d (D.int .i64 ((a:Nat):Int))),(2,V.d (D.int .i64 ((m:Nat):Int))),(3,V.d (D.int .i64 ((b:Nat):Int))),(4,V.fn 40 []),(18,V.d (D.int .i64 ((mid:Nat):Int))),(20,V.d (D.int .i64 ((s:Nat):Int))),(24,V.d (D.int .i64 ((e:Nat):Int))),(185,V.d (D.bool false))],[]::[(18,Ob.row false 5 true (rf n f))]::[]⟩ .normal ⟨[(0,V.msl 1 18 [] 0 n),(3,V.d (D.int .i64 ((b:Nat):Int))),(4,V.fn 40 []),(18,V.d (D.int .i64 ((mid:Nat):Int))),(24,V.d (D.int .i64 ((e:Nat):Int)))],[]::[(18,Ob.row false 5 true (rf n g1))]::[]⟩:=
  codeC_ok (hs:=[.b true, .b true, .b true, .b true, .b true, .call (V.tup []) [[(18,Ob.row false 5 true (rf n g1))]]]) (hs':=[]) (cs:=[_,_,_,_,_,_]) (by kernel_rfl) ⟨c0,c0,c0,c0,c1,c2,trivial⟩
theorem w73k_0 (n:Nat) (f:Nat→TNum) (b:Nat) (mid:Nat) (e:Nat)
    (c0:(decide (((mid:Nat):Int)<((e:Nat):Int)))=false) :
    Ev pg i73_x5 ⟨[(0,V.msl 1 18 [] 0 n),(3,V.d (D.int .i64 ((b:Nat):Int))),(4,V.fn 40 []),(18,V.d (D.int .i64 ((mid:Nat):Int))),(24,V.d (D.int .i64 ((e:Nat):Int)))],[]::[(18,Ob.row false 5 true (rf n f))]::[]⟩ .normal ⟨[(0,V.msl 1 18 [] 0 n),(3,V.d (D.int .i64 ((b:Nat):Int))),(4,V.fn 40 []),(18,V.d (D.int .i64 ((mid:Nat):Int))),(24,V.d (D.int .i64 ((e:Nat):Int))),(213,V.d (D.bool false))],[]::[(18,Ob.row false 5 true (rf n f))]::[]⟩:=
  codeC_ok (hs:=[.b false, .b false, .b false, .b false, .b false]) (hs':=[]) (cs:=[_,_,_,_,false=false]) (by kernel_rfl) ⟨c0,c0,c0,c0,rfl,trivial⟩
theorem w73k_1 (n:Nat) (f:Nat→TNum) (b:Nat) (mid:Nat) (e:Nat)
    (c0:(decide (((mid:Nat):Int)<((e:Nat):Int)))=true)
    (c1:(decide (((e:Nat):Int)<((b:Nat):Int)))=false) :
    Ev pg i73_x5 ⟨[(0,V.msl 1 18 [] 0 n),(3,V.d (D.int .i64 ((b:Nat):Int))),(4,V.fn 40 []),(18,V.d (D.int .i64 ((mid:Nat):Int))),(24,V.d (D.int .i64 ((e:Nat):Int)))],[]::[(18,Ob.row false 5 true (rf n f))]::[]⟩ .normal ⟨[(0,V.msl 1 18 [] 0 n),(3,V.d (D.int .i64 ((b:Nat):Int))),(4,V.fn 40 []),(18,V.d (D.int .i64 ((mid:Nat):Int))),(24,V.d (D.int .i64 ((e:Nat):Int))),(213,V.d (D.bool false))],[]::[(18,Ob.row false 5 true (rf n f))]::[]⟩:=
  by
  have r:Ev pg i73_x5 ⟨[(0,V.msl 1 18 [] 0 n),(3,V.d (D.int .i64 ((b:Nat):Int))),(4,V.fn 40 []),(18,V.d (D.int .i64 ((mid:Nat):Int))),(24,V.d (D.int .i64 ((e:Nat):Int)))],[]::[(18,Ob.row false 5 true (rf n f))]::[]⟩ .normal ⟨[(0,V.msl 1 18 [] 0 n),(3,V.d (D.int .i64 ((b:Nat):Int))),(4,V.fn 40 []),(18,V.d (D.int .i64 ((mid:Nat):Int))),(24,V.d (D.int .i64 ((e:Nat):Int))),(213,V.d (D.bool (decide (((e:Nat):Int)<((b:Nat):Int)))))],[]::[(18,Ob.row false 5 true (rf n f))]::[]⟩:=
  codeC_ok (hs:=[.b true, .b true, .b true, .b true, .b false]) (hs':=[]) (cs:=[_,_,_,_,_]) (by kernel_rfl) ⟨c0,c0,c0,c0,c1,trivial⟩
  simp only [c1] at r
  exact r
theorem w73k_2 (n:Nat) (f:Nat→TNum) (b:Nat) (mid:Nat) (e:Nat) (g1:Nat→TNum)
    (c0:(decide (((mid:Nat):Int)<((e:Nat):Int)))=true)
    (c1:(decide (((e:Nat):Int)<((b:Nat):Int)))=true)
    (c2:Rn pg 73 [V.msl 0 18 [] 0 n,V.d (D.int .i64 ((mid:Nat):Int)),V.d (D.int .i64 ((e:Nat):Int)),V.d (D.int .i64 ((b:Nat):Int)),V.fn 40 []] [[(18,Ob.row false 5 true (rf n f))]] (V.tup []) [[(18,Ob.row false 5 true (rf n g1))]]) :
    Ev pg i73_x5 ⟨[(0,V.msl 1 18 [] 0 n),(3,V.d (D.int .i64 ((b:Nat):Int))),(4,V.fn 40 []),(18,V.d (D.int .i64 ((mid:Nat):Int))),(24,V.d (D.int .i64 ((e:Nat):Int)))],[]::[(18,Ob.row false 5 true (rf n f))]::[]⟩ .normal ⟨[],[]::[(18,Ob.row false 5 true (rf n g1))]::[]⟩:=
  codeC_ok (hs:=[.b true, .b true, .b true, .b true, .b true, .call (V.tup []) [[(18,Ob.row false 5 true (rf n g1))]]]) (hs':=[]) (cs:=[_,_,_,_,_,_]) (by kernel_rfl) ⟨c0,c0,c0,c0,c1,c2,trivial⟩
theorem w73K_0 (n:Nat) (f:Nat→TNum) (a:Nat) (b:Nat) (mid:Nat) (s:Nat) (e:Nat)
    (c0:(decide (((mid:Nat):Int)<((e:Nat):Int)))=false) :
    Ev pg i73_x5 ⟨[(0,V.msl 1 18 [] 0 n),(1,V.d (D.int .i64 ((a:Nat):Int))),(3,V.d (D.int .i64 ((b:Nat):Int))),(4,V.fn 40 []),(18,V.d (D.int .i64 ((mid:Nat):Int))),(20,V.d (D.int .i64 ((s:Nat):Int))),(24,V.d (D.int .i64 ((e:Nat):Int))),(199,V.d (D.bool false))],[]::[(18,Ob.row false 5 true (rf n f))]::[]⟩ .normal ⟨[(0,V.msl 1 18 [] 0 n),(3,V.d (D.int .i64 ((b:Nat):Int))),(4,V.fn 40 []),(18,V.d (D.int .i64 ((mid:Nat):Int))),(24,V.d (D.int .i64 ((e:Nat):Int))),(213,V.d (D.bool false))],[]::[(18,Ob.row false 5 true (rf n f))]::[]⟩:=
  codeC_ok (hs:=[.b false, .b false, .b false, .b false, .b false]) (hs':=[]) (cs:=[_,_,_,_,false=false]) (by kernel_rfl) ⟨c0,c0,c0,c0,rfl,trivial⟩
theorem w73K_1 (n:Nat) (f:Nat→TNum) (a:Nat) (b:Nat) (mid:Nat) (s:Nat) (e:Nat)
    (c0:(decide (((mid:Nat):Int)<((e:Nat):Int)))=true)
    (c1:(decide (((e:Nat):Int)<((b:Nat):Int)))=false) :
    Ev pg i73_x5 ⟨[(0,V.msl 1 18 [] 0 n),(1,V.d (D.int .i64 ((a:Nat):Int))),(3,V.d (D.int .i64 ((b:Nat):Int))),(4,V.fn 40 []),(18,V.d (D.int .i64 ((mid:Nat):Int))),(20,V.d (D.int .i64 ((s:Nat):Int))),(24,V.d (D.int .i64 ((e:Nat):Int))),(199,V.d (D.bool false))],[]::[(18,Ob.row false 5 true (rf n f))]::[]⟩ .normal ⟨[(0,V.msl 1 18 [] 0 n),(3,V.d (D.int .i64 ((b:Nat):Int))),(4,V.fn 40 []),(18,V.d (D.int .i64 ((mid:Nat):Int))),(24,V.d (D.int .i64 ((e:Nat):Int))),(213,V.d (D.bool false))],[]::[(18,Ob.row false 5 true (rf n f))]::[]⟩:=
  by
  have r:Ev pg i73_x5 ⟨[(0,V.msl 1 18 [] 0 n),(1,V.d (D.int .i64 ((a:Nat):Int))),(3,V.d (D.int .i64 ((b:Nat):Int))),(4,V.fn 40 []),(18,V.d (D.int .i64 ((mid:Nat):Int))),(20,V.d (D.int .i64 ((s:Nat):Int))),(24,V.d (D.int .i64 ((e:Nat):Int))),(199,V.d (D.bool false))],[]::[(18,Ob.row false 5 true (rf n f))]::[]⟩ .normal ⟨[(0,V.msl 1 18 [] 0 n),(3,V.d (D.int .i64 ((b:Nat):Int))),(4,V.fn 40 []),(18,V.d (D.int .i64 ((mid:Nat):Int))),(24,V.d (D.int .i64 ((e:Nat):Int))),(213,V.d (D.bool (decide (((e:Nat):Int)<((b:Nat):Int)))))],[]::[(18,Ob.row false 5 true (rf n f))]::[]⟩:=
  codeC_ok (hs:=[.b true, .b true, .b true, .b true, .b false]) (hs':=[]) (cs:=[_,_,_,_,_]) (by kernel_rfl) ⟨c0,c0,c0,c0,c1,trivial⟩
  simp only [c1] at r
  exact r
theorem w73K_2 (n:Nat) (f:Nat→TNum) (a:Nat) (b:Nat) (mid:Nat) (s:Nat) (e:Nat) (g1:Nat→TNum)
    (c0:(decide (((mid:Nat):Int)<((e:Nat):Int)))=true)
    (c1:(decide (((e:Nat):Int)<((b:Nat):Int)))=true)
    (c2:Rn pg 73 [V.msl 0 18 [] 0 n,V.d (D.int .i64 ((mid:Nat):Int)),V.d (D.int .i64 ((e:Nat):Int)),V.d (D.int .i64 ((b:Nat):Int)),V.fn 40 []] [[(18,Ob.row false 5 true (rf n f))]] (V.tup []) [[(18,Ob.row false 5 true (rf n g1))]]) :
    Ev pg i73_x5 ⟨[(0,V.msl 1 18 [] 0 n),(1,V.d (D.int .i64 ((a:Nat):Int))),(3,V.d (D.int .i64 ((b:Nat):Int))),(4,V.fn 40 []),(18,V.d (D.int .i64 ((mid:Nat):Int))),(20,V.d (D.int .i64 ((s:Nat):Int))),(24,V.d (D.int .i64 ((e:Nat):Int))),(199,V.d (D.bool false))],[]::[(18,Ob.row false 5 true (rf n f))]::[]⟩ .normal ⟨[],[]::[(18,Ob.row false 5 true (rf n g1))]::[]⟩:=
  codeC_ok (hs:=[.b true, .b true, .b true, .b true, .b true, .call (V.tup []) [[(18,Ob.row false 5 true (rf n g1))]]]) (hs':=[]) (cs:=[_,_,_,_,_,_]) (by kernel_rfl) ⟨c0,c0,c0,c0,c1,c2,trivial⟩
end Go.Proofs.YtgmphfmoonbfpaaMv

set_option maxRecDepth 100000
namespace Go.Proofs.YtgmphfmoonbfpaaMv
open Go
theorem ediv_cast (a:Nat):Int.fdiv ((a:Nat):Int) 2=((a / 2:Nat):Int):=by
  rw [Int.fdiv_eq_ediv_of_nonneg _ (by omega)];omega
theorem wmid {a b:Nat} (h:a+b<4611686018427387904):IntKind.i64.wrap ((Int.fdiv (IntKind.u64.wrap ((IntKind.i64.wrap (((a:Nat):Int)+((b:Nat):Int))))) (2 ^ (min (Int.toNat 1) 64))))=(((a+b) / 2:Nat):Int):=by
  rw [wadd h]
  have hu:IntKind.u64.wrap ((a+b:Nat):Int)=((a+b:Nat):Int):=by
    simp [IntKind.wrap,IntKind.signed,IntKind.bits];omega
  have hp:(2:Int) ^ (min (Int.toNat 1) 64)=2:=by decide
  rw [hu,hp,ediv_cast,wrap64 (by omega) (by omega)]
theorem ev_chain {m:Nat} {callr:CallR} {rest:IR} {st1:St} {r:Option (Ex × St)} (hr:ev m callr rest st1=r):∀ (as1:List IR) (st:St),ev m callr (as1.foldr .seq .skip) st=some (.normal,st1)→ev m callr (as1.foldr .seq rest) st=r
  | [],st,h=>by
    simp only [List.foldr_nil,ev,Option.some.injEq,Prod.mk.injEq,true_and] at h
    subst h
    exact hr
  | a::as1,st,h=>by
    simp only [List.foldr_cons,ev] at h ⊢
    split at h
    · rename_i st2 h2
      exact ev_chain hr as1 st2 h
    · rename_i hn
      exact absurd h (hn _)
theorem Ev.chain {p:Pg} (as1:List IR) {rest:IR} {st st1 st2:St} {ex:Ex} (h:Ev p (as1.foldr .seq .skip) st .normal st1) (k:Ev p rest st1 ex st2):Ev p (as1.foldr .seq rest) st ex st2:=by
  obtain ⟨n,h⟩:=h
  obtain ⟨n',k⟩:=k
  exact ⟨max n n',fun m hm=>ev_chain (k m (by omega)) as1 st (h m (by omega))⟩
theorem lt_t {i j:Nat} (h:i<j):(decide (((i:Nat):Int)<((j:Nat):Int)))=true:=by simp only [decide_eq_true_eq];omega
theorem lt_f {i j:Nat} (h:j≤i):(decide (((i:Nat):Int)<((j:Nat):Int)))=false:=by simp only [decide_eq_false_iff_not];omega
theorem gt_t {i j:Nat} (h:j<i):(decide (((i:Nat):Int) > ((j:Nat):Int)))=true:=by simp only [decide_eq_true_eq];omega
theorem gt_f {i j:Nat} (h:i≤j):(decide (((i:Nat):Int) > ((j:Nat):Int)))=false:=by simp only [decide_eq_false_iff_not];omega
theorem l73a {n a:Nat} {f:Nat→TNum} (hn:n<bdN) (ha:a<n) {lo hi:Nat}:∀ (d i j:Nat),j - i≤d→lo≤i→i≤j→j≤hi→hi≤n→(i=lo∨cN (f (i - 1)) (f a)=true)→(j=hi∨cN (f j) (f a)=false) →
    ∃ e,lo≤e∧e≤hi∧(e=lo∨cN (f (e - 1)) (f a)=true)∧(e=hi∨cN (f e) (f a)=false) ∧
      Lp pg i73_l0 ⟨[(0,D0 n),(1,iN a),(4,V.fn 40 []),(10,iN i),(11,iN j)],[]::hR n f⟩ (.exit 0) ⟨[(0,D0 n),(1,iN a),(4,V.fn 40 []),(10,iN e),(11,iN e),(33,V.d (D.bool false))],[]::hR n f⟩:=by
  have h30:bdN=1073741824:=rfl
  intro d
  induction d with
  | zero=>
    intro i j h h1 h2 h3 h4 h5 h6
    obtain rfl:i=j:=by omega
    exact ⟨i,h1,h3,h5,h6,Lp.exit (w73a_0 n f a i i (lt_f (Nat.le_refl _)))⟩
  | succ d ih=>
    intro i j h h1 h2 h3 h4 h5 h6
    by_cases hij:i=j
    · subst hij
      exact ⟨i,h1,h3,h5,h6,Lp.exit (w73a_0 n f a i i (lt_f (Nat.le_refl _)))⟩
    · have hm:=wmid (a:=i) (b:=j) (by omega)
      cases hc:cN (f ((i+j) / 2)) (f a) with
      | false=>
        have r:=w73a_1 n f a i j ((i+j) / 2) (lt_t (by omega)) (by decide) hm (by omega) (rf_get f (by omega)) ha (rf_get f ha) (f40 _ _ []) hc
        rw [hm] at r
        obtain ⟨e,e1,e2,e3,e4,e5⟩:=ih i ((i+j) / 2) (by omega) h1 (by omega) (by omega) h4 h5 (.inr hc)
        exact ⟨e,e1,e2,e3,e4,Lp.next r e5⟩
      | true=>
        have r:=w73a_2 n f a i j ((i+j) / 2) (lt_t (by omega)) (by decide) hm (by omega) (rf_get f (by omega)) ha (rf_get f ha) (f40 _ _ []) hc
        rw [hm,wadd1 (by omega)] at r
        obtain ⟨e,e1,e2,e3,e4,e5⟩:=ih ((i+j) / 2+1) j (by omega) (by omega) (by omega) h3 h4 (.inr (by rw [Nat.add_sub_cancel];exact hc)) h6
        exact ⟨e,e1,e2,e3,e4,Lp.next r e5⟩
theorem l73b {n a i:Nat} (f:Nat→TNum) (hn:n<bdN) (hi:i≤n):∀ (d k:Nat),i - 1 - k=d→a≤k→k+1≤i→∃ k',
    Lp pg i73_l2 ⟨[(0,D0 n),(10,iN i),(13,iN k)],[]::hR n (rot a (a+1) (k+1) f)⟩ (.exit 2) ⟨[(0,D0 n),(10,iN i),(13,iN k'),(58,V.d (D.bool false))],[]::hR n (rot a (a+1) i f)⟩:=by
  have h30:bdN=1073741824:=rfl
  intro d
  induction d with
  | zero=>
    intro k h h1 h2
    obtain rfl:i=k+1:=by omega
    exact ⟨k,Lp.exit (w73b_0 n _ (k+1) k (by rw [wsub1 (by omega) (by omega)];exact lt_f (by omega)))⟩
  | succ d ih=>
    intro k h h1 h2
    have r:=w73b_1 n (rot a (a+1) (k+1) f) i k (k+1) (by rw [wsub1 (by omega) (by omega)];exact lt_t (by omega)) (wadd1 (by omega)) (by omega) (rf_get _ (by omega)) (by omega) (rf_get _ (by omega)) (rf_get2 _ (i:=k) (j:=k+1) (by omega) (by omega))
    rw [wadd1 (by omega)] at r
    have e:setCells (setCells (rf n (rot a (a+1) (k+1) f)) k 0 (rot a (a+1) (k+1) f (k+1)).oc) (k+1) 0 (rot a (a+1) (k+1) f k).oc=rf n (rot a (a+1) (k+1+1) f):=by rw [rf_sw _ _ _ (by omega) (by omega),rot_up f h1]
    have r':Ev pg i73_l2 ⟨[(0,D0 n),(10,iN i),(13,iN k)],[]::hR n (rot a (a+1) (k+1) f)⟩ .normal ⟨[(0,D0 n),(10,iN i),(13,iN (k+1))],[]::[[(18,Ob.row false 5 true (setCells (setCells (rf n (rot a (a+1) (k+1) f)) k 0 (rot a (a+1) (k+1) f (k+1)).oc) (k+1) 0 (rot a (a+1) (k+1) f k).oc))]]⟩:=r
    rw [e] at r'
    obtain ⟨k',hk⟩:=ih (k+1) (by omega) (by omega) (by omega)
    exact ⟨k',Lp.next r' hk⟩
theorem l73c {n m:Nat} {f:Nat→TNum} (hn:n<bdN) (ha:m<n) {lo hi:Nat}:∀ (d i j:Nat),j - i≤d→lo≤i→i≤j→j≤hi→hi≤n→(i=lo∨cN (f m) (f (i - 1))=false)→(j=hi∨cN (f m) (f j)=true) →
    ∃ e,lo≤e∧e≤hi∧(e=lo∨cN (f m) (f (e - 1))=false)∧(e=hi∨cN (f m) (f e)=true) ∧
      Lp pg i73_l4 ⟨[(0,D0 n),(2,iN m),(4,V.fn 40 []),(14,iN i),(15,iN j)],[]::hR n f⟩ (.exit 4) ⟨[(0,D0 n),(2,iN m),(4,V.fn 40 []),(14,iN e),(15,iN e),(85,V.d (D.bool false))],[]::hR n f⟩:=by
  have h30:bdN=1073741824:=rfl
  intro d
  induction d with
  | zero=>
    intro i j h h1 h2 h3 h4 h5 h6
    obtain rfl:i=j:=by omega
    exact ⟨i,h1,h3,h5,h6,Lp.exit (w73c_0 n f m i i (lt_f (Nat.le_refl _)))⟩
  | succ d ih=>
    intro i j h h1 h2 h3 h4 h5 h6
    by_cases hij:i=j
    · subst hij
      exact ⟨i,h1,h3,h5,h6,Lp.exit (w73c_0 n f m i i (lt_f (Nat.le_refl _)))⟩
    · have hm:=wmid (a:=i) (b:=j) (by omega)
      cases hc:cN (f m) (f ((i+j) / 2)) with
      | true=>
        have r:=w73c_1 n f m i j ((i+j) / 2) (lt_t (by omega)) (by decide) ha (rf_get f ha) hm (by omega) (rf_get f (by omega)) (f40 _ _ []) (by show (!cN (f m) (f ((i+j) / 2)))=false;rw [hc];rfl)
        rw [hm] at r
        obtain ⟨e,e1,e2,e3,e4,e5⟩:=ih i ((i+j) / 2) (by omega) h1 (by omega) (by omega) h4 h5 (.inr hc)
        exact ⟨e,e1,e2,e3,e4,Lp.next r e5⟩
      | false=>
        have r:=w73c_2 n f m i j ((i+j) / 2) (lt_t (by omega)) (by decide) ha (rf_get f ha) hm (by omega) (rf_get f (by omega)) (f40 _ _ []) (by show (!cN (f m) (f ((i+j) / 2)))=true;rw [hc];rfl)
        rw [hm,wadd1 (by omega)] at r
        obtain ⟨e,e1,e2,e3,e4,e5⟩:=ih ((i+j) / 2+1) j (by omega) (by omega) (by omega) h3 h4 (.inr (by rw [Nat.add_sub_cancel];exact hc)) h6
        exact ⟨e,e1,e2,e3,e4,Lp.next r e5⟩
theorem l73d {n m i:Nat} (f:Nat→TNum) (hn:n<bdN) (hm:m<n):∀ (k:Nat),i≤k→k≤m →
    Lp pg i73_l6 ⟨[(0,D0 n),(14,iN i),(17,iN k)],[]::hR n (rot k m (m+1) f)⟩ (.exit 6) ⟨[(0,D0 n),(14,iN i),(17,iN i),(110,V.d (D.bool false))],[]::hR n (rot i m (m+1) f)⟩:=by
  have h30:bdN=1073741824:=rfl
  intro k
  induction k with
  | zero=>
    intro h1 h2
    obtain rfl:i=0:=by omega
    exact Lp.exit (w73d_0 n _ 0 0 (gt_f (Nat.le_refl _)))
  | succ k ih=>
    intro h1 h2
    by_cases hk:i=k+1
    · subst hk
      exact Lp.exit (w73d_0 n _ (k+1) (k+1) (gt_f (Nat.le_refl _)))
    · have hw:IntKind.i64.wrap (((k+1:Nat):Int) - 1)=((k:Nat):Int):=wsub1 (by omega) (by omega)
      have r:=w73d_1 n (rot (k+1) m (m+1) f) i (k+1) k (gt_t (by omega)) hw (by omega) (rf_get _ (by omega)) (by omega) (rf_get _ (by omega)) (rf_get2 _ (i:=k+1) (j:=k) (by omega) (by omega))
      rw [hw] at r
      have e:setCells (setCells (rf n (rot (k+1) m (m+1) f)) (k+1) 0 (rot (k+1) m (m+1) f k).oc) k 0 (rot (k+1) m (m+1) f (k+1)).oc=rf n (rot k m (m+1) f):=by rw [rf_sw _ _ _ (by omega) (by omega),rot_down f (by omega)]
      have r':Ev pg i73_l6 ⟨[(0,D0 n),(14,iN i),(17,iN (k+1))],[]::hR n (rot (k+1) m (m+1) f)⟩ .normal ⟨[(0,D0 n),(14,iN i),(17,iN k)],[]::[[(18,Ob.row false 5 true (setCells (setCells (rf n (rot (k+1) m (m+1) f)) (k+1) 0 (rot (k+1) m (m+1) f k).oc) k 0 (rot (k+1) m (m+1) f (k+1)).oc))]]⟩:=r
      rw [e] at r'
      exact Lp.next r' (ih (by omega) (by omega))
theorem l73e {n a m b mid nn p:Nat} {f:Nat→TNum} (hn:n<bdN) {lo hi:Nat} (hp:nn=p+1) (hb:hi≤p+1∧p<lo+n) (hh:hi≤n):∀ (d i j:Nat),j - i≤d→lo≤i→i≤j→j≤hi →
    (i=lo∨cN (f (p - (i - 1))) (f (i - 1))=false)→(j=hi∨cN (f (p - j)) (f j)=true) →
    ∃ e,lo≤e∧e≤hi∧(e=lo∨cN (f (p - (e - 1))) (f (e - 1))=false)∧(e=hi∨cN (f (p - e)) (f e)=true) ∧
      Lp pg i73_l8 ⟨[(0,D0 n),(1,iN a),(2,iN m),(3,iN b),(4,V.fn 40 []),(18,iN mid),(19,iN nn),(20,iN i),(21,iN j),(22,iN p)],[]::hR n f⟩ (.exit 8) ⟨[(0,D0 n),(1,iN a),(2,iN m),(3,iN b),(4,V.fn 40 []),(18,iN mid),(19,iN nn),(20,iN e),(21,iN e),(22,iN p),(151,V.d (D.bool false))],[]::hR n f⟩:=by
  have h30:bdN=1073741824:=rfl
  intro d
  induction d with
  | zero=>
    intro i j h h1 h2 h3 h5 h6
    obtain rfl:i=j:=by omega
    exact ⟨i,h1,h3,h5,h6,Lp.exit (w73e_0 n f a m b mid nn i i p (lt_f (Nat.le_refl _)))⟩
  | succ d ih=>
    intro i j h h1 h2 h3 h5 h6
    by_cases hij:i=j
    · subst hij
      exact ⟨i,h1,h3,h5,h6,Lp.exit (w73e_0 n f a m b mid nn i i p (lt_f (Nat.le_refl _)))⟩
    · have hm:=wmid (a:=i) (b:=j) (by omega)
      have hq:IntKind.i64.wrap (((p:Nat):Int) - (IntKind.i64.wrap ((Int.fdiv (IntKind.u64.wrap ((IntKind.i64.wrap (((i:Nat):Int)+((j:Nat):Int))))) (2 ^ (min (Int.toNat 1) 64))))))=((p - (i+j) / 2:Nat):Int):=by rw [hm,wsub (by omega) (by omega)]
      cases hc:cN (f (p - (i+j) / 2)) (f ((i+j) / 2)) with
      | true=>
        have r:=w73e_1 n f a m b mid nn i j p (p - (i+j) / 2) ((i+j) / 2) (lt_t (by omega)) (by decide) hq (by omega) (rf_get f (by omega)) hm (by omega) (rf_get f (by omega)) (f40 _ _ []) (by show (!cN (f (p - (i+j) / 2)) (f ((i+j) / 2)))=false;rw [hc];rfl)
        rw [hm] at r
        obtain ⟨e,e1,e2,e3,e4,e5⟩:=ih i ((i+j) / 2) (by omega) h1 (by omega) (by omega) h5 (.inr hc)
        exact ⟨e,e1,e2,e3,e4,Lp.next r e5⟩
      | false=>
        have r:=w73e_2 n f a m b mid nn i j p (p - (i+j) / 2) ((i+j) / 2) (lt_t (by omega)) (by decide) hq (by omega) (rf_get f (by omega)) hm (by omega) (rf_get f (by omega)) (f40 _ _ []) (by show (!cN (f (p - (i+j) / 2)) (f ((i+j) / 2)))=true;rw [hc];rfl)
        rw [hm,wadd1 (by omega)] at r
        obtain ⟨e,e1,e2,e3,e4,e5⟩:=ih ((i+j) / 2+1) j (by omega) (by omega) (by omega) h3 (.inr (by rw [Nat.add_sub_cancel];exact hc)) h6
        exact ⟨e,e1,e2,e3,e4,Lp.next r e5⟩
end Go.Proofs.YtgmphfmoonbfpaaMv

set_option maxRecDepth 100000
namespace Go.Proofs.YtgmphfmoonbfpaaMv
open Go
theorem one_t {a m:Nat} (h:m=a+1) (h2:m<bdN):((IntKind.i64.wrap (((m:Nat):Int) - ((a:Nat):Int)))==1)=true:=by
  have h30:bdN=1073741824:=rfl
  rw [wsub (by omega) (by omega)];simp;omega
theorem one_f {a m:Nat} (h:a+1<m) (h2:m<bdN):((IntKind.i64.wrap (((m:Nat):Int) - ((a:Nat):Int)))==1)=false:=by
  have h30:bdN=1073741824:=rfl
  rw [wsub (by omega) (by omega)]
  rw [beq_eq_false_iff_ne];omega
def MergeOk (n:Nat) (a m b:Nat) (f:Nat→TNum):Prop:=∃ g,SP a b f g∧Srt ltN a b g∧Rn pg 73 [V.msl 0 18 [] 0 n,iN a,iN m,iN b,V.fn 40 []] (hR n f) (V.tup []) (hR n g)
theorem x4 {n a m b mid s e:Nat} {f:Nat→TNum} (hn:n<bdN) (hb:b≤n) (ham:a≤s) (hsm:s≤mid) (hmb:mid≤b) (h1:Srt ltN a s f) (h2:Srt ltN s mid f) (hx:Crs rkN a s mid f) (ih:a<s→s<mid→MergeOk n a s mid f)
    (q:List (Nat × V)) (hq:q=[(0,D0 n),(1,iN a),(2,iN m),(3,iN b),(4,V.fn 40 []),(18,iN mid),(20,iN s),(24,iN e),(185,V.d (D.bool false))]∨q=[(0,D0 n),(1,iN a),(3,iN b),(4,V.fn 40 []),(18,iN mid),(20,iN s),(24,iN e)]) :
    ∃ g q',(q'=[(0,D0 n),(1,iN a),(3,iN b),(4,V.fn 40 []),(18,iN mid),(20,iN s),(24,iN e),(199,V.d (D.bool false))]∨q'=[(0,D0 n),(3,iN b),(4,V.fn 40 []),(18,iN mid),(24,iN e)])∧SP a mid f g∧Srt ltN a mid g ∧
      Ev pg i73_x4 ⟨q,[]::hR n f⟩ .normal ⟨q',[]::hR n g⟩:=by
  by_cases g1:a<s
  · by_cases g2:s<mid
    · obtain ⟨g,k1,k2,k3⟩:=ih g1 g2
      refine ⟨g,_, .inr rfl,k1,k2, ?_⟩
      rcases hq with rfl | rfl
      · exact w73J_2 n f a m b mid s e g (lt_t g1) (lt_t g2) k3
      · exact w73j_2 n f a b mid s e g (lt_t g1) (lt_t g2) k3
    · obtain rfl:s=mid:=by omega
      refine ⟨f,_, .inl rfl,SP.refl _ _ _,h1, ?_⟩
      rcases hq with rfl | rfl
      · exact w73J_1 n f a m b s s e (lt_t g1) (lt_f (Nat.le_refl _))
      · exact w73j_1 n f a b s s e (lt_t g1) (lt_f (Nat.le_refl _))
  · obtain rfl:a=s:=by omega
    refine ⟨f,_, .inl rfl,SP.refl _ _ _,h2, ?_⟩
    rcases hq with rfl | rfl
    · exact w73J_0 n f a m b mid a e (lt_f (Nat.le_refl _))
    · exact w73j_0 n f a b mid a e (lt_f (Nat.le_refl _))
theorem x5 {n a b mid s e:Nat} {f:Nat→TNum} (ham:mid≤e) (hsm:e≤b) (h1:Srt ltN mid e f) (h2:Srt ltN e b f) (hx:Crs rkN mid e b f) (ih:mid<e→e<b→MergeOk n mid e b f)
    (q:List (Nat × V)) (hq:q=[(0,D0 n),(1,iN a),(3,iN b),(4,V.fn 40 []),(18,iN mid),(20,iN s),(24,iN e),(199,V.d (D.bool false))]∨q=[(0,D0 n),(3,iN b),(4,V.fn 40 []),(18,iN mid),(24,iN e)]) :
    ∃ g q',SP mid b f g∧Srt ltN mid b g∧Ev pg i73_x5 ⟨q,[]::hR n f⟩ .normal ⟨q',[]::hR n g⟩:=by
  by_cases g1:mid<e
  · by_cases g2:e<b
    · obtain ⟨g,k1,k2,k3⟩:=ih g1 g2
      rcases hq with rfl | rfl
      · exact ⟨g,_,k1,k2,w73K_2 n f a b mid s e g (lt_t g1) (lt_t g2) k3⟩
      · exact ⟨g,_,k1,k2,w73k_2 n f b mid e g (lt_t g1) (lt_t g2) k3⟩
    · obtain rfl:e=b:=by omega
      rcases hq with rfl | rfl
      · exact ⟨f,_,SP.refl _ _ _,h1,w73K_1 n f a e mid s e (lt_t g1) (lt_f (Nat.le_refl _))⟩
      · exact ⟨f,_,SP.refl _ _ _,h1,w73k_1 n f e mid e (lt_t g1) (lt_f (Nat.le_refl _))⟩
  · obtain rfl:mid=e:=by omega
    rcases hq with rfl | rfl
    · exact ⟨f,_,SP.refl _ _ _,h2,w73K_0 n f a b mid s mid (lt_f (Nat.le_refl _))⟩
    · exact ⟨f,_,SP.refl _ _ _,h2,w73k_0 n f b mid mid (lt_f (Nat.le_refl _))⟩
theorem x2 {n a m b:Nat} {f:Nat→TNum} (hn:n<bdN) (hb:b≤n) (ha:a<m) (hm:m<b) (hA:Srt ltN a m f) (hB:Srt ltN m b f) (hX:Crs rkN a m b f) :
    ∃ s e,a≤s∧s≤m∧m≤e∧e≤b∧s≤(a+b) / 2∧(a+b) / 2≤e∧Cut ltN rkN a s ((a+b) / 2) e b (rot s m e f) ∧
      Ev pg i73_x2 ⟨[(0,D0 n),(1,iN a),(2,iN m),(3,iN b),(4,V.fn 40 []),(80,V.d (D.bool false))],[]::hR n f⟩ .normal ⟨[(0,D0 n),(1,iN a),(2,iN m),(3,iN b),(4,V.fn 40 []),(18,iN ((a+b) / 2)),(20,iN s),(24,iN e)],[]::hR n f⟩:=by
  have h30:bdN=1073741824:=rfl
  have hw:=wmid (a:=a) (b:=b) (by omega)
  obtain ⟨mid,hmid⟩:∃ mid,mid=(a+b) / 2:=⟨_,rfl⟩
  rw [←hmid] at hw ⊢
  have fin:∀ lo hi s:Nat,(lo=a∧hi=m∧m≤mid∨lo=mid+m - b∧hi=mid∧mid<m)→lo≤s→s≤hi→(s=lo∨cN (f (mid+m - 1 - (s - 1))) (f (s - 1))=false)→(s=hi∨cN (f (mid+m - 1 - s)) (f s)=true) →
      a≤s∧s≤m∧m≤mid+m - s∧mid+m - s≤b∧s≤mid∧mid≤mid+m - s∧Cut ltN rkN a s mid (mid+m - s) b (rot s m (mid+m - s) f):=by
    intro lo hi s hlo h1 h2 h3 h4
    have k1:a≤s:=by omega
    have k2:s≤m:=by omega
    have k3:m≤mid+m - s:=by omega
    have k4:mid+m - s≤b:=by omega
    have k5:s≤mid:=by omega
    have C:=cut_rot ordN hA hB hX k1 k2 k3 k4 (fun g1 g2=>by
        rw [show mid+m - s - 1=mid+m - 1 - s by omega]
        exact h4.resolve_left (by omega)) (fun g1 g2=>by
        rw [show mid+m - s=mid+m - 1 - (s - 1) by omega]
        exact h3.resolve_left (by omega))
    rw [show s+(mid+m - s - m)=mid by omega] at C
    exact ⟨k1,k2,k3,k4,k5,by omega,C⟩
  by_cases hcase:m≤mid
  · obtain ⟨s,e1,e2,e3,e4,e5⟩:=l73e (a:=a) (m:=m) (b:=b) (mid:=mid) (nn:=mid+m) (p:=mid+m - 1) (f:=f) hn (lo:=a) (hi:=m) (by omega) (by omega) (by omega) m a m (by omega) (Nat.le_refl _) (by omega) (Nat.le_refl _) (.inl rfl) (.inl rfl)
    obtain ⟨k1,k2,k3,k4,k5,k6,C⟩:=fin a m s (.inl ⟨rfl,rfl,hcase⟩) e1 e2 e3 e4
    refine ⟨s,mid+m - s,k1,k2,k3,k4,k5,k6,C, ?_⟩
    have r:=w73h_0 n f a m b s (by decide) (by rw [hw];exact gt_f hcase) (by rw [hw,wadd (by omega),wsub1 (by omega) (by omega)];exact e5)
    rw [hw,wadd (by omega),wsub (by omega) (by omega)] at r
    exact r
  · obtain ⟨s,e1,e2,e3,e4,e5⟩:=l73e (a:=a) (m:=m) (b:=b) (mid:=mid) (nn:=mid+m) (p:=mid+m - 1) (f:=f) hn (lo:=mid+m - b) (hi:=mid) (by omega) (by omega) (by omega) mid (mid+m - b) mid (by omega) (Nat.le_refl _) (by omega) (Nat.le_refl _) (.inl rfl) (.inl rfl)
    obtain ⟨k1,k2,k3,k4,k5,k6,C⟩:=fin (mid+m - b) mid s (.inr ⟨rfl,rfl,by omega⟩) e1 e2 e3 e4
    refine ⟨s,mid+m - s,k1,k2,k3,k4,k5,k6,C, ?_⟩
    have r:=w73h_1 n f a m b s (by decide) (by rw [hw];exact gt_t (by omega)) (by rw [hw,wadd (by omega),wsub (a:=mid+m) (b:=b) (by omega) (by omega),wsub1 (by omega) (by omega)];exact e5)
    rw [hw,wadd (by omega),wsub (by omega) (by omega)] at r
    exact r
theorem f73 {n:Nat} (hn:n<bdN):∀ (d a m b:Nat) (f:Nat→TNum),b - a≤d→a<m→m<b→b≤n→Srt ltN a m f→Srt ltN m b f→Crs rkN a m b f→MergeOk n a m b f:=by
  have h30:bdN=1073741824:=rfl
  intro d
  induction d with
  | zero=>intro a m b f h h1 h2;omega
  | succ d ih=>
    intro a m b f h ha hm hb hA hB hX
    by_cases h1:m=a+1
    · -- one on the left
      subst h1
      obtain ⟨e,e1,e2,e3,e4,e5⟩:=l73a (a:=a) (f:=f) hn (by omega) (lo:=a+1) (hi:=b) b (a+1) b (by omega) (Nat.le_refl _) (by omega) (Nat.le_refl _) hb (.inl rfl) (.inl rfl)
      obtain ⟨k',hk⟩:=l73b (a:=a) (i:=e) f hn (by omega) _ a rfl (Nat.le_refl _) (by omega)
      rw [rot_id2 f a (a+1) (by omega)] at hk
      have r:=w73f_1 n f a (a+1) b e k' _ (one_t rfl (by omega)) e5 hk
      refine ⟨_,(rot_sp f (by omega) e1).wide (Nat.le_refl _) e2,ins_r ordN hB hX e1 e2 e3 e4, ?_⟩
      exact Rn.of (fn:=i73) rfl (Ev.seqR r) (fun _ h=>by cases h) rfl rfl rfl
    · have r0:=w73f_0 n f a m b (one_f (by omega) (by omega))
      by_cases h2:b=m+1
      · -- one on the right
        subst h2
        obtain ⟨e,e1,e2,e3,e4,e5⟩:=l73c (m:=m) (f:=f) hn (by omega) (lo:=a) (hi:=m) m a m (by omega) (Nat.le_refl _) (by omega) (Nat.le_refl _) (by omega) (.inl rfl) (.inl rfl)
        have hk:=l73d (m:=m) (i:=e) f hn (by omega) m e2 (Nat.le_refl _)
        rw [rot_id1 f m (m+1)] at hk
        have r:=w73g_1 n f a m (m+1) e e _ (one_t rfl (by omega)) e5 hk
        refine ⟨_,(rot_sp f e2 (by omega)).wide e1 (Nat.le_refl _),ins_l ordN hA hX e1 e2 e4 e3, ?_⟩
        exact Rn.of (fn:=i73) rfl (Ev.seq r0 (Ev.seqR r)) (fun _ h=>by cases h) rfl rfl rfl
      · have r1:=w73g_0 n f a m b (one_f (by omega) (by omega))
        obtain ⟨s,e,k1,k2,k3,k4,k5,k6,C,r2⟩:=x2 hn hb ha hm hA hB hX
        obtain ⟨mid,hmid⟩:∃ mid,mid=(a+b) / 2:=⟨_,rfl⟩
        rw [←hmid] at k5 k6 C r2
        have ham:a<mid:=by omega
        have hmb:mid<b:=by omega
        have r3:∃ q,(q=[(0,D0 n),(1,iN a),(2,iN m),(3,iN b),(4,V.fn 40 []),(18,iN mid),(20,iN s),(24,iN e),(185,V.d (D.bool false))]∨q=[(0,D0 n),(1,iN a),(3,iN b),(4,V.fn 40 []),(18,iN mid),(20,iN s),(24,iN e)]) ∧
            Ev pg i73_x3 ⟨[(0,D0 n),(1,iN a),(2,iN m),(3,iN b),(4,V.fn 40 []),(18,iN mid),(20,iN s),(24,iN e)],[]::hR n f⟩ .normal ⟨q,[]::hR n (rot s m e f)⟩:=by
          by_cases g1:s<m
          · by_cases g2:m<e
            · exact ⟨_, .inr rfl,w73i_2 n f a m b mid s e _ (lt_t g1) (lt_t g2) (f77 f hn g1 g2 (by omega))⟩
            · obtain rfl:m=e:=by omega
              rw [rot_id2 f s m k2]
              exact ⟨_, .inl rfl,w73i_1 n f a m b mid s m (lt_t g1) (lt_f (Nat.le_refl _))⟩
          · obtain rfl:s=m:=by omega
            rw [rot_id1 f s e]
            exact ⟨_, .inl rfl,w73i_0 n f a s b mid s e (lt_f (Nat.le_refl _))⟩
        obtain ⟨q,hq,r3⟩:=r3
        obtain ⟨g,q',hq',g1,g2,r4⟩:=x4 (m:=m) (e:=e) hn hb k1 k5 (by omega) C.l1 C.l2 C.lx (fun z1 z2=>ih a s mid _ (by omega) z1 z2 (by omega) C.l1 C.l2 C.lx) q hq
        have ho:∀ k,mid≤k→g k=rot s m e f k:=fun k hk=>g1.out (by omega)
        have c1:Srt ltN mid e g:=C.r1.cong fun k z1 _=>ho k z1
        have c2:Srt ltN e b g:=C.r2.cong fun k z1 _=>ho k (by omega)
        have c3:Crs rkN mid e b g:=fun i j z1 z2 z3 z4=>by rw [ho i z1,ho j (by omega)];exact C.rx i j z1 z2 z3 z4
        obtain ⟨g',q5,m1,m2,r5⟩:=x5 (a:=a) (s:=s) k6 k4 c1 c2 c3 (fun z1 z2=>ih mid e b _ (by omega) z1 z2 hb c1 c2 c3) q' hq'
        refine ⟨g', ?_,C.done (by omega) (by omega) g1 m1 g2 m2, ?_⟩
        · exact (((rot_sp f k2 k3).wide k1 k4).trans (g1.wide (Nat.le_refl _) (by omega))).trans (m1.wide (by omega) (Nat.le_refl _))
        · have h2:Ev pg (.seq i73_x3 (.seq i73_x4 i73_x5)) _ .normal _:=Ev.seq r3 (Ev.seq r4 r5)
          have h1:=Ev.chain [i73_r24,i73_r25,i73_r26, .seq i73_r27 (.cond (.t 140) (.seq i73_r28 i73_r29) (.seq i73_r30 i73_r31)),i73_r32, .block 8 (.loop i73_l8),i73_r38] r2 h2
          exact Rn.of (fn:=i73) rfl (Ev.seq r0 (Ev.seq r1 h1)) (fun _ h=>by cases h) rfl rfl rfl
end Go.Proofs.YtgmphfmoonbfpaaMv

set_option maxRecDepth 100000
namespace Go.Proofs.YtgmphfmoonbfpaaMv
open Go
theorem w62a_0 (n:Nat) (f:Nat→TNum) (s:Nat) (a:Nat) (b:Nat)
    (c0:(decide (((b:Nat):Int)≤((n:Nat):Int)))=false) :
    Ev pg i62_l0 ⟨[(0,V.msl 1 18 [] 0 n),(1,V.d (D.int .i64 ((n:Nat):Int))),(2,V.fn 40 []),(6,V.d (D.int .i64 ((s:Nat):Int))),(7,V.d (D.int .i64 ((a:Nat):Int))),(8,V.d (D.int .i64 ((b:Nat):Int)))],[]::[(18,Ob.row false 5 true (rf n f))]::[]⟩ (.exit 0) ⟨[(0,V.msl 1 18 [] 0 n),(1,V.d (D.int .i64 ((n:Nat):Int))),(2,V.fn 40 []),(6,V.d (D.int .i64 ((s:Nat):Int))),(7,V.d (D.int .i64 ((a:Nat):Int))),(8,V.d (D.int .i64 ((b:Nat):Int))),(13,V.d (D.bool false))],[]::[(18,Ob.row false 5 true (rf n f))]::[]⟩:=
  by
  have r:Ev pg i62_l0 ⟨[(0,V.msl 1 18 [] 0 n),(1,V.d (D.int .i64 ((n:Nat):Int))),(2,V.fn 40 []),(6,V.d (D.int .i64 ((s:Nat):Int))),(7,V.d (D.int .i64 ((a:Nat):Int))),(8,V.d (D.int .i64 ((b:Nat):Int)))],[]::[(18,Ob.row false 5 true (rf n f))]::[]⟩ (.exit 0) ⟨[(0,V.msl 1 18 [] 0 n),(1,V.d (D.int .i64 ((n:Nat):Int))),(2,V.fn 40 []),(6,V.d (D.int .i64 ((s:Nat):Int))),(7,V.d (D.int .i64 ((a:Nat):Int))),(8,V.d (D.int .i64 ((b:Nat):Int))),(13,V.d (D.bool (decide (((b:Nat):Int)≤((n:Nat):Int)))))],[]::[(18,Ob.row false 5 true (rf n f))]::[]⟩:=
  codeC_ok (hs:=[.b false]) (hs':=[]) (cs:=[_]) (by kernel_rfl) ⟨c0,trivial⟩
  simp only [c0] at r
  exact r
theorem w62a_1 (n:Nat) (f:Nat→TNum) (s:Nat) (a:Nat) (b:Nat) (g1:Nat→TNum)
    (c0:(decide (((b:Nat):Int)≤((n:Nat):Int)))=true)
    (c1:Rn pg 72 [V.msl 0 18 [] 0 n,V.d (D.int .i64 ((a:Nat):Int)),V.d (D.int .i64 ((b:Nat):Int)),V.fn 40 []] [[(18,Ob.row false 5 true (rf n f))]] (V.tup []) [[(18,Ob.row false 5 true (rf n g1))]]) :
    Ev pg i62_l0 ⟨[(0,V.msl 1 18 [] 0 n),(1,V.d (D.int .i64 ((n:Nat):Int))),(2,V.fn 40 []),(6,V.d (D.int .i64 ((s:Nat):Int))),(7,V.d (D.int .i64 ((a:Nat):Int))),(8,V.d (D.int .i64 ((b:Nat):Int)))],[]::[(18,Ob.row false 5 true (rf n f))]::[]⟩ .normal ⟨[(0,V.msl 1 18 [] 0 n),(1,V.d (D.int .i64 ((n:Nat):Int))),(2,V.fn 40 []),(6,V.d (D.int .i64 ((s:Nat):Int))),(7,V.d (D.int .i64 ((b:Nat):Int))),(8,V.d (D.int .i64 (IntKind.i64.wrap (((b:Nat):Int)+((s:Nat):Int)))))],[]::[(18,Ob.row false 5 true (rf n g1))]::[]⟩:=
  codeC_ok (hs:=[.b true, .call (V.tup []) [[(18,Ob.row false 5 true (rf n g1))]]]) (hs':=[]) (cs:=[_,_]) (by kernel_rfl) ⟨c0,c1,trivial⟩
theorem w62b_0 (n:Nat) (f:Nat→TNum) (s:Nat) (a:Nat) (b:Nat)
    (c0:(decide (((b:Nat):Int)≤((n:Nat):Int)))=false) :
    Ev pg i62_l4 ⟨[(0,V.msl 1 18 [] 0 n),(1,V.d (D.int .i64 ((n:Nat):Int))),(2,V.fn 40 []),(6,V.d (D.int .i64 ((s:Nat):Int))),(7,V.d (D.int .i64 ((a:Nat):Int))),(8,V.d (D.int .i64 ((b:Nat):Int)))],[]::[(18,Ob.row false 5 true (rf n f))]::[]⟩ (.exit 4) ⟨[(0,V.msl 1 18 [] 0 n),(1,V.d (D.int .i64 ((n:Nat):Int))),(2,V.fn 40 []),(6,V.d (D.int .i64 ((s:Nat):Int))),(7,V.d (D.int .i64 ((a:Nat):Int))),(8,V.d (D.int .i64 ((b:Nat):Int))),(35,V.d (D.bool false))],[]::[(18,Ob.row false 5 true (rf n f))]::[]⟩:=
  by
  have r:Ev pg i62_l4 ⟨[(0,V.msl 1 18 [] 0 n),(1,V.d (D.int .i64 ((n:Nat):Int))),(2,V.fn 40 []),(6,V.d (D.int .i64 ((s:Nat):Int))),(7,V.d (D.int .i64 ((a:Nat):Int))),(8,V.d (D.int .i64 ((b:Nat):Int)))],[]::[(18,Ob.row false 5 true (rf n f))]::[]⟩ (.exit 4) ⟨[(0,V.msl 1 18 [] 0 n),(1,V.d (D.int .i64 ((n:Nat):Int))),(2,V.fn 40 []),(6,V.d (D.int .i64 ((s:Nat):Int))),(7,V.d (D.int .i64 ((a:Nat):Int))),(8,V.d (D.int .i64 ((b:Nat):Int))),(35,V.d (D.bool (decide (((b:Nat):Int)≤((n:Nat):Int)))))],[]::[(18,Ob.row false 5 true (rf n f))]::[]⟩:=
  codeC_ok (hs:=[.b false]) (hs':=[]) (cs:=[_]) (by kernel_rfl) ⟨c0,trivial⟩
  simp only [c0] at r
  exact r
theorem w62b_1 (n:Nat) (f:Nat→TNum) (s:Nat) (a:Nat) (b:Nat) (g1:Nat→TNum)
    (c0:(decide (((b:Nat):Int)≤((n:Nat):Int)))=true)
    (c1:Rn pg 73 [V.msl 0 18 [] 0 n,V.d (D.int .i64 ((a:Nat):Int)),V.d (D.int .i64 (IntKind.i64.wrap (((a:Nat):Int)+((s:Nat):Int)))),V.d (D.int .i64 ((b:Nat):Int)),V.fn 40 []] [[(18,Ob.row false 5 true (rf n f))]] (V.tup []) [[(18,Ob.row false 5 true (rf n g1))]]) :
    Ev pg i62_l4 ⟨[(0,V.msl 1 18 [] 0 n),(1,V.d (D.int .i64 ((n:Nat):Int))),(2,V.fn 40 []),(6,V.d (D.int .i64 ((s:Nat):Int))),(7,V.d (D.int .i64 ((a:Nat):Int))),(8,V.d (D.int .i64 ((b:Nat):Int)))],[]::[(18,Ob.row false 5 true (rf n f))]::[]⟩ .normal ⟨[(0,V.msl 1 18 [] 0 n),(1,V.d (D.int .i64 ((n:Nat):Int))),(2,V.fn 40 []),(6,V.d (D.int .i64 ((s:Nat):Int))),(7,V.d (D.int .i64 ((b:Nat):Int))),(8,V.d (D.int .i64 (IntKind.i64.wrap (((b:Nat):Int)+(IntKind.i64.wrap (2 * ((s:Nat):Int)))))))],[]::[(18,Ob.row false 5 true (rf n g1))]::[]⟩:=
  codeC_ok (hs:=[.b true, .call (V.tup []) [[(18,Ob.row false 5 true (rf n g1))]]]) (hs':=[]) (cs:=[_,_]) (by kernel_rfl) ⟨c0,c1,trivial⟩
theorem w62c_0 (n:Nat) (f:Nat→TNum) (s:Nat)
    (c0:(decide (((s:Nat):Int)<((n:Nat):Int)))=false) :
    Ev pg i62_l2 ⟨[(0,V.msl 1 18 [] 0 n),(1,V.d (D.int .i64 ((n:Nat):Int))),(2,V.fn 40 []),(6,V.d (D.int .i64 ((s:Nat):Int)))],[]::[(18,Ob.row false 5 true (rf n f))]::[]⟩ (.exit 2) ⟨[(0,V.msl 1 18 [] 0 n),(1,V.d (D.int .i64 ((n:Nat):Int))),(2,V.fn 40 []),(6,V.d (D.int .i64 ((s:Nat):Int))),(30,V.d (D.bool false))],[]::[(18,Ob.row false 5 true (rf n f))]::[]⟩:=
  by
  have r:Ev pg i62_l2 ⟨[(0,V.msl 1 18 [] 0 n),(1,V.d (D.int .i64 ((n:Nat):Int))),(2,V.fn 40 []),(6,V.d (D.int .i64 ((s:Nat):Int)))],[]::[(18,Ob.row false 5 true (rf n f))]::[]⟩ (.exit 2) ⟨[(0,V.msl 1 18 [] 0 n),(1,V.d (D.int .i64 ((n:Nat):Int))),(2,V.fn 40 []),(6,V.d (D.int .i64 ((s:Nat):Int))),(30,V.d (D.bool (decide (((s:Nat):Int)<((n:Nat):Int)))))],[]::[(18,Ob.row false 5 true (rf n f))]::[]⟩:=
  codeC_ok (hs:=[.b false]) (hs':=[]) (cs:=[_]) (by kernel_rfl) ⟨c0,trivial⟩
  simp only [c0] at r
  exact r
theorem w62c_1 (n:Nat) (f:Nat→TNum) (s:Nat) (a1:Nat) (b2:Nat) (g3:Nat→TNum)
    (c0:(decide (((s:Nat):Int)<((n:Nat):Int)))=true)
    (c1:Lp pg i62_l4 ⟨[(0,V.msl 1 18 [] 0 n),(1,V.d (D.int .i64 ((n:Nat):Int))),(2,V.fn 40 []),(6,V.d (D.int .i64 ((s:Nat):Int))),(7,V.d (D.int .i64 0)),(8,V.d (D.int .i64 (IntKind.i64.wrap (2 * ((s:Nat):Int)))))],[]::[(18,Ob.row false 5 true (rf n f))]::[]⟩ (.exit 4) ⟨[(0,V.msl 1 18 [] 0 n),(1,V.d (D.int .i64 ((n:Nat):Int))),(2,V.fn 40 []),(6,V.d (D.int .i64 ((s:Nat):Int))),(7,V.d (D.int .i64 ((a1:Nat):Int))),(8,V.d (D.int .i64 ((b2:Nat):Int))),(35,V.d (D.bool false))],[]::[(18,Ob.row false 5 true (rf n g3))]::[]⟩)
    (c2:(decide ((IntKind.i64.wrap (((a1:Nat):Int)+((s:Nat):Int)))<((n:Nat):Int)))=false) :
    Ev pg i62_l2 ⟨[(0,V.msl 1 18 [] 0 n),(1,V.d (D.int .i64 ((n:Nat):Int))),(2,V.fn 40 []),(6,V.d (D.int .i64 ((s:Nat):Int)))],[]::[(18,Ob.row false 5 true (rf n f))]::[]⟩ .normal ⟨[(0,V.msl 1 18 [] 0 n),(1,V.d (D.int .i64 ((n:Nat):Int))),(2,V.fn 40 []),(6,V.d (D.int .i64 (IntKind.i64.wrap (((s:Nat):Int) * 2))))],[]::[(18,Ob.row false 5 true (rf n g3))]::[]⟩:=
  codeC_ok (hs:=[.b true, .lp (.exit 4) ⟨[(0,V.msl 1 18 [] 0 n),(1,V.d (D.int .i64 ((n:Nat):Int))),(2,V.fn 40 []),(6,V.d (D.int .i64 ((s:Nat):Int))),(7,V.d (D.int .i64 ((a1:Nat):Int))),(8,V.d (D.int .i64 ((b2:Nat):Int))),(35,V.d (D.bool false))],[]::[(18,Ob.row false 5 true (rf n g3))]::[]⟩, .b false]) (hs':=[]) (cs:=[_,_,_]) (by kernel_rfl) ⟨c0,c1,c2,trivial⟩
theorem w62c_2 (n:Nat) (f:Nat→TNum) (s:Nat) (a1:Nat) (b2:Nat) (g3:Nat→TNum) (g4:Nat→TNum)
    (c0:(decide (((s:Nat):Int)<((n:Nat):Int)))=true)
    (c1:Lp pg i62_l4 ⟨[(0,V.msl 1 18 [] 0 n),(1,V.d (D.int .i64 ((n:Nat):Int))),(2,V.fn 40 []),(6,V.d (D.int .i64 ((s:Nat):Int))),(7,V.d (D.int .i64 0)),(8,V.d (D.int .i64 (IntKind.i64.wrap (2 * ((s:Nat):Int)))))],[]::[(18,Ob.row false 5 true (rf n f))]::[]⟩ (.exit 4) ⟨[(0,V.msl 1 18 [] 0 n),(1,V.d (D.int .i64 ((n:Nat):Int))),(2,V.fn 40 []),(6,V.d (D.int .i64 ((s:Nat):Int))),(7,V.d (D.int .i64 ((a1:Nat):Int))),(8,V.d (D.int .i64 ((b2:Nat):Int))),(35,V.d (D.bool false))],[]::[(18,Ob.row false 5 true (rf n g3))]::[]⟩)
    (c2:(decide ((IntKind.i64.wrap (((a1:Nat):Int)+((s:Nat):Int)))<((n:Nat):Int)))=true)
    (c3:Rn pg 73 [V.msl 0 18 [] 0 n,V.d (D.int .i64 ((a1:Nat):Int)),V.d (D.int .i64 (IntKind.i64.wrap (((a1:Nat):Int)+((s:Nat):Int)))),V.d (D.int .i64 ((n:Nat):Int)),V.fn 40 []] [[(18,Ob.row false 5 true (rf n g3))]] (V.tup []) [[(18,Ob.row false 5 true (rf n g4))]]) :
    Ev pg i62_l2 ⟨[(0,V.msl 1 18 [] 0 n),(1,V.d (D.int .i64 ((n:Nat):Int))),(2,V.fn 40 []),(6,V.d (D.int .i64 ((s:Nat):Int)))],[]::[(18,Ob.row false 5 true (rf n f))]::[]⟩ .normal ⟨[(0,V.msl 1 18 [] 0 n),(1,V.d (D.int .i64 ((n:Nat):Int))),(2,V.fn 40 []),(6,V.d (D.int .i64 (IntKind.i64.wrap (((s:Nat):Int) * 2))))],[]::[(18,Ob.row false 5 true (rf n g4))]::[]⟩:=
  codeC_ok (hs:=[.b true, .lp (.exit 4) ⟨[(0,V.msl 1 18 [] 0 n),(1,V.d (D.int .i64 ((n:Nat):Int))),(2,V.fn 40 []),(6,V.d (D.int .i64 ((s:Nat):Int))),(7,V.d (D.int .i64 ((a1:Nat):Int))),(8,V.d (D.int .i64 ((b2:Nat):Int))),(35,V.d (D.bool false))],[]::[(18,Ob.row false 5 true (rf n g3))]::[]⟩, .b true, .call (V.tup []) [[(18,Ob.row false 5 true (rf n g4))]]]) (hs':=[]) (cs:=[_,_,_,_]) (by kernel_rfl) ⟨c0,c1,c2,c3,trivial⟩
theorem w62_0 (n:Nat) (f:Nat→TNum) (a1:Nat) (b2:Nat) (g3:Nat→TNum) (g4:Nat→TNum) (z5:Nat) (g6:Nat→TNum)
 (c0:Lp pg i62_l0 ⟨[(0,V.msl 1 18 [] 0 n),(1,V.d (D.int .i64 ((n:Nat):Int))),(2,V.fn 40 []),(6,V.d (D.int .i64 20)),(7,V.d (D.int .i64 0)),(8,V.d (D.int .i64 20))],[]::[(18,Ob.row false 5 true (rf n f))]::[]⟩ (.exit 0) ⟨[(0,V.msl 1 18 [] 0 n),(1,V.d (D.int .i64 ((n:Nat):Int))),(2,V.fn 40 []),(6,V.d (D.int .i64 20)),(7,V.d (D.int .i64 ((a1:Nat):Int))),(8,V.d (D.int .i64 ((b2:Nat):Int))),(13,V.d (D.bool false))],[]::[(18,Ob.row false 5 true (rf n g3))]::[]⟩)
 (c1:Rn pg 72 [V.msl 0 18 [] 0 n,V.d (D.int .i64 ((a1:Nat):Int)),V.d (D.int .i64 ((n:Nat):Int)),V.fn 40 []] [[(18,Ob.row false 5 true (rf n g3))]] (V.tup []) [[(18,Ob.row false 5 true (rf n g4))]])
 (c2:Lp pg i62_l2 ⟨[(0,V.msl 1 18 [] 0 n),(1,V.d (D.int .i64 ((n:Nat):Int))),(2,V.fn 40 []),(6,V.d (D.int .i64 20))],[]::[(18,Ob.row false 5 true (rf n g4))]::[]⟩ (.exit 2) ⟨[(0,V.msl 1 18 [] 0 n),(1,V.d (D.int .i64 ((n:Nat):Int))),(2,V.fn 40 []),(6,V.d (D.int .i64 ((z5:Nat):Int))),(30,V.d (D.bool false))],[]::[(18,Ob.row false 5 true (rf n g6))]::[]⟩) :
 Rn pg 62 [V.msl 0 18 [] 0 n,V.d (D.int .i64 ((n:Nat):Int)),V.fn 40 []] ([(18,Ob.row false 5 true (rf n f))]::[]) (V.tup []) ([(18,Ob.row false 5 true (rf n g6))]::[]):=
 Rn.c (fn:=i62) (ex:=.normal) (st:=⟨[(0,V.msl 1 18 [] 0 n),(1,V.d (D.int .i64 ((n:Nat):Int))),(2,V.fn 40 []),(6,V.d (D.int .i64 ((z5:Nat):Int))),(30,V.d (D.bool false))],[]::[(18,Ob.row false 5 true (rf n g6))]::[]⟩) (hs:=[.lp (.exit 0) ⟨[(0,V.msl 1 18 [] 0 n),(1,V.d (D.int .i64 ((n:Nat):Int))),(2,V.fn 40 []),(6,V.d (D.int .i64 20)),(7,V.d (D.int .i64 ((a1:Nat):Int))),(8,V.d (D.int .i64 ((b2:Nat):Int))),(13,V.d (D.bool false))],[]::[(18,Ob.row false 5 true (rf n g3))]::[]⟩, .call (V.tup []) [[(18,Ob.row false 5 true (rf n g4))]], .lp (.exit 2) ⟨[(0,V.msl 1 18 [] 0 n),(1,V.d (D.int .i64 ((n:Nat):Int))),(2,V.fn 40 []),(6,V.d (D.int .i64 ((z5:Nat):Int))),(30,V.d (D.bool false))],[]::[(18,Ob.row false 5 true (rf n g6))]::[]⟩]) (cs:=[_,_,_]) (rs:=[]) (t:=[])
 (by kernel_rfl) (by kernel_rfl) (by kernel_rfl) (by kernel_rfl) (by kernel_rfl) (by kernel_rfl) ⟨c0,c1,c2,trivial⟩
theorem w39_0 (n:Nat) (f:Nat→TNum) (g1:Nat→TNum)
 (c0:Rn pg 62 [V.msl 0 18 [] 0 n,V.d (D.int .i64 ((n:Nat):Int)),V.fn 40 []] [[(18,Ob.row false 5 true (rf n f))]] (V.tup []) [[(18,Ob.row false 5 true (rf n g1))]]) :
 Rn pg 39 [V.msl 0 18 [] 0 n,V.fn 40 []] ([(18,Ob.row false 5 true (rf n f))]::[]) (V.tup []) ([(18,Ob.row false 5 true (rf n g1))]::[]):=
 Rn.c (fn:=i39) (ex:=.normal) (st:=⟨[],[]::[(18,Ob.row false 5 true (rf n g1))]::[]⟩) (hs:=[.call (V.tup []) [[(18,Ob.row false 5 true (rf n g1))]]]) (cs:=[_]) (rs:=[]) (t:=[])
 (by kernel_rfl) (by kernel_rfl) (by kernel_rfl) (by kernel_rfl) (by kernel_rfl) (by kernel_rfl) ⟨c0,trivial⟩
end Go.Proofs.YtgmphfmoonbfpaaMv

set_option maxRecDepth 100000
namespace Go.Proofs.YtgmphfmoonbfpaaMv
open Go
theorem dv {i s q:Nat} (h1:q * s≤i) (h2:i<q * s+s):i / s=q:=
  Nat.div_eq_of_lt_le h1 (by rw [Nat.succ_mul];exact h2)
theorem two_q (q s:Nat):(2 * q) * s=q * (2 * s):=by rw [Nat.mul_comm 2 q,Nat.mul_assoc]
theorem two_q1 (q s:Nat):(2 * q+1) * s=q * (2 * s)+s:=by rw [Nat.add_mul,two_q,Nat.one_mul]
theorem two_q2 (q s:Nat):(2 * q+1+1) * s=q * (2 * s)+2 * s:=by rw [Nat.add_mul,two_q1];omega
theorem q_succ (q t:Nat):(q+1) * t=q * t+t:=Nat.succ_mul q t
theorem q_le {q q0 t:Nat} (ht:0<t) (h:(q+1) * t≤(q0+1) * t):q≤q0:=by
  have:=Nat.le_of_mul_le_mul_right h ht
  omega
theorem q_mono {q q0 t:Nat} (h:q+1≤q0):(q+1) * t≤q0 * t:=Nat.mul_le_mul_right t h
theorem Srt.nil' {a b:Nat} {f:Nat→TNum} (h:b≤a):Srt ltN a b f:=fun i j h1 h2 h3=>by omega
structure Ph1 (n s a:Nat) (f:Nat→TNum):Prop where
  done:∀ q,(q+1) * s≤a→Srt ltN (q * s) ((q+1) * s) f
  rb:RB rkN n s f
  inc:∀ x y,a≤x→x<y→y<n→rkN (f x)<rkN (f y)
theorem Ph1.next {n s q b:Nat} {f g:Nat→TNum} (h:Ph1 n s (q * s) f) (hs:0<s) (ha:q * s≤b) (hb:b≤n) (hb2:b≤q * s+s) (x:SP (q * s) b f g) (y:Srt ltN (q * s) b g):Ph1 n s b g:=by
  have hblk:∀ k,q * s≤k→k<b→k / s=q:=fun k h1 h2=>dv h1 (by omega)
  refine ⟨fun r hr=>?_,h.rb.sp x hb fun k h1 h2=>by rw [hblk k h1 h2,dv (Nat.le_refl _) (by omega)],fun u v h1 h2 h3=>?_⟩
  · have hle:r≤q:=q_le hs (by rw [q_succ q s];omega)
    by_cases hq:r=q
    · subst hq
      rw [q_succ] at hr ⊢
      have:r * s+s=b:=by omega
      rw [this];exact y
    · have hm:=q_mono (t:=s) (show r+1≤q by omega)
      exact (h.done r hm).cong fun k _ h2=>x.out (by omega)
  · rw [x.out (k:=u) (by omega),x.out (k:=v) (by omega)]
    exact h.inc u v (by omega) h2 h3
theorem l62a {n s:Nat} (hn:n<bdN) (hs:0<s) (hsn:s<bdN):∀ (d q:Nat) (f:Nat→TNum),n - q * s≤d→q * s≤n→Ph1 n s (q * s) f→∃ q' g,q' * s≤n∧n<q' * s+s∧Ph1 n s (q' * s) g∧SP 0 n f g ∧
    Lp pg i62_l0 ⟨[(0,D0 n),(1,iN n),(2,V.fn 40 []),(6,iN s),(7,iN (q * s)),(8,iN (q * s+s))],[]::hR n f⟩ (.exit 0) ⟨[(0,D0 n),(1,iN n),(2,V.fn 40 []),(6,iN s),(7,iN (q' * s)),(8,iN (q' * s+s)),(13,V.d (D.bool false))],[]::hR n g⟩:=by
  have h30:bdN=1073741824:=rfl
  have out:∀ (q:Nat) (f:Nat→TNum),q * s≤n→Ph1 n s (q * s) f→¬q * s+s≤n→∃ q' g,q' * s≤n∧n<q' * s+s∧Ph1 n s (q' * s) g∧SP 0 n f g ∧
      Lp pg i62_l0 ⟨[(0,D0 n),(1,iN n),(2,V.fn 40 []),(6,iN s),(7,iN (q * s)),(8,iN (q * s+s))],[]::hR n f⟩ (.exit 0) ⟨[(0,D0 n),(1,iN n),(2,V.fn 40 []),(6,iN s),(7,iN (q' * s)),(8,iN (q' * s+s)),(13,V.d (D.bool false))],[]::hR n g⟩:=fun q f h1 h2 h3=>
    ⟨q,f,h1,by omega,h2,SP.refl _ _ _,Lp.exit (w62a_0 n f s (q * s) (q * s+s) (by simp only [decide_eq_false_iff_not];omega))⟩
  intro d
  induction d with
  | zero=>intro q f h h1 h2;exact out q f h1 h2 (by omega)
  | succ d ih=>
    intro q f h h1 h2
    by_cases hle:q * s+s≤n
    · obtain ⟨g,k1,k2,k3⟩:=f72 (n:=n) (a:=q * s) (b:=q * s+s) f hn hle (by omega) fun x y g1 g2 g3=>h2.inc x y g1 g2 (by omega)
      have r:=w62a_1 n f s (q * s) (q * s+s) g (by simp only [decide_eq_true_eq];omega) k3
      rw [wadd (by omega)] at r
      have hP:=h2.next hs (by omega) hle (Nat.le_refl _) k1 k2
      rw [←q_succ] at hP
      obtain ⟨q',g',m1,m2,m3,m4,m5⟩:=ih (q+1) g (by rw [q_succ];omega) (by rw [q_succ];omega) hP
      rw [q_succ q] at m5
      exact ⟨q',g',m1,m2,m3,(k1.wide (Nat.zero_le _) hle).trans m4,Lp.next r m5⟩
    · exact out q f h1 h2 hle
structure Ph2 (n s a:Nat) (f:Nat→TNum):Prop where
  done:∀ q,(q+1) * (2 * s)≤a→Srt ltN (q * (2 * s)) ((q+1) * (2 * s)) f
  rest:∀ q,a≤q * s→Srt ltN (q * s) (min ((q+1) * s) n) f
  rb:RB rkN n (2 * s) f
  crs:∀ i j,a≤i→i / s<j / s→j<n→rkN (f i)<rkN (f j)
theorem Ph2.halves {n s q b:Nat} {f:Nat→TNum} (h:Ph2 n s (q * (2 * s)) f) (hs:0<s) (h1:q * (2 * s)+s≤n) (hb:b=min (q * (2 * s)+2 * s) n) :
    Srt ltN (q * (2 * s)) (q * (2 * s)+s) f∧Srt ltN (q * (2 * s)+s) b f∧Crs rkN (q * (2 * s)) (q * (2 * s)+s) b f:=by
  have r1:=h.rest (2 * q) (by rw [two_q];exact Nat.le_refl _)
  have r2:=h.rest (2 * q+1) (by rw [two_q1];omega)
  rw [two_q,two_q1,Nat.min_eq_left h1] at r1
  rw [two_q2,two_q1,←hb] at r2
  refine ⟨r1,r2,fun i j g1 g2 g3 g4=>h.crs i j g1 ?_ (by omega)⟩
  rw [dv (q:=2 * q) (s:=s) (i:=i) (by rw [two_q];exact g1) (by rw [two_q];exact g2),dv (q:=2 * q+1) (s:=s) (i:=j) (by rw [two_q1];exact g3) (by rw [two_q1];omega)]
  omega
theorem Ph2.next {n s q b:Nat} {f g:Nat→TNum} (h:Ph2 n s (q * (2 * s)) f) (hs:0<s) (ha:q * (2 * s)≤b) (hb:b≤n) (hb2:b≤q * (2 * s)+2 * s) (x:SP (q * (2 * s)) b f g) (y:Srt ltN (q * (2 * s)) b g):Ph2 n s b g:=by
  have hblk:∀ k,q * (2 * s)≤k→k<b→k / (2 * s)=q:=fun k h1 h2=>dv h1 (by omega)
  refine ⟨fun r hr=>?_,fun r hr=>?_,h.rb.sp x hb fun k h1 h2=>by rw [hblk k h1 h2,dv (Nat.le_refl _) (by omega)],fun i j h1 h2 h3=>?_⟩
  · have hle:r≤q:=q_le (t:=2 * s) (by omega) (by rw [q_succ q (2 * s)];omega)
    by_cases hq:r=q
    · subst hq
      rw [q_succ r (2 * s)] at hr ⊢
      have:r * (2 * s)+2 * s=b:=by omega
      rw [this];exact y
    · have hm:=q_mono (t:=2 * s) (show r+1≤q by omega)
      exact (h.done r hm).cong fun k _ h2=>x.out (by omega)
  · exact (h.rest r (by omega)).cong fun k h1 _=>x.out (by omega)
  · have hij:i<j:=by
      apply Decidable.byContradiction
      intro hn
      have:=Nat.div_le_div_right (c:=s) (Nat.le_of_not_lt hn)
      omega
    rw [x.out (k:=i) (by omega),x.out (k:=j) (by omega)]
    exact h.crs i j (by omega) h2 h3
theorem l62b {n s:Nat} (hn:n<bdN) (hs:0<s) (hsn:s<bdN):∀ (d q:Nat) (f:Nat→TNum),n - q * (2 * s)≤d→q * (2 * s)≤n→Ph2 n s (q * (2 * s)) f→∃ q' g,q' * (2 * s)≤n∧n<q' * (2 * s)+2 * s∧Ph2 n s (q' * (2 * s)) g∧SP 0 n f g ∧
    Lp pg i62_l4 ⟨[(0,D0 n),(1,iN n),(2,V.fn 40 []),(6,iN s),(7,iN (q * (2 * s))),(8,iN (q * (2 * s)+2 * s))],[]::hR n f⟩ (.exit 4) ⟨[(0,D0 n),(1,iN n),(2,V.fn 40 []),(6,iN s),(7,iN (q' * (2 * s))),(8,iN (q' * (2 * s)+2 * s)),(35,V.d (D.bool false))],[]::hR n g⟩:=by
  have h30:bdN=1073741824:=rfl
  have out:∀ (q:Nat) (f:Nat→TNum),q * (2 * s)≤n→Ph2 n s (q * (2 * s)) f→¬q * (2 * s)+2 * s≤n→∃ q' g,q' * (2 * s)≤n∧n<q' * (2 * s)+2 * s∧Ph2 n s (q' * (2 * s)) g∧SP 0 n f g ∧
      Lp pg i62_l4 ⟨[(0,D0 n),(1,iN n),(2,V.fn 40 []),(6,iN s),(7,iN (q * (2 * s))),(8,iN (q * (2 * s)+2 * s))],[]::hR n f⟩ (.exit 4) ⟨[(0,D0 n),(1,iN n),(2,V.fn 40 []),(6,iN s),(7,iN (q' * (2 * s))),(8,iN (q' * (2 * s)+2 * s)),(35,V.d (D.bool false))],[]::hR n g⟩:=fun q f h1 h2 h3=>
    ⟨q,f,h1,by omega,h2,SP.refl _ _ _,Lp.exit (w62b_0 n f s (q * (2 * s)) (q * (2 * s)+2 * s) (by simp only [decide_eq_false_iff_not];omega))⟩
  intro d
  induction d with
  | zero=>intro q f h h1 h2;exact out q f h1 h2 (by omega)
  | succ d ih=>
    intro q f h h1 h2
    by_cases hle:q * (2 * s)+2 * s≤n
    · obtain ⟨c1,c2,c3⟩:=h2.halves (b:=q * (2 * s)+2 * s) hs (by omega) (Nat.min_eq_left hle).symm
      obtain ⟨g,k1,k2,k3⟩:=f73 hn (2 * s) (q * (2 * s)) (q * (2 * s)+s) (q * (2 * s)+2 * s) f (by omega) (by omega) (by omega) hle c1 c2 c3
      have hw2:IntKind.i64.wrap (2 * ((s:Nat):Int))=((2 * s:Nat):Int):=by rw [wrap64 (by omega) (by omega)];omega
      have r:=w62b_1 n f s (q * (2 * s)) (q * (2 * s)+2 * s) g (by simp only [decide_eq_true_eq];omega) (by rw [wadd (by omega)];exact k3)
      rw [hw2,wadd (by omega)] at r
      have hP:=h2.next hs (by omega) hle (Nat.le_refl _) k1 k2
      rw [←q_succ] at hP
      obtain ⟨q',g',m1,m2,m3,m4,m5⟩:=ih (q+1) g (by rw [q_succ];omega) (by rw [q_succ];omega) hP
      rw [q_succ q] at m5
      exact ⟨q',g',m1,m2,m3,(k1.wide (Nat.zero_le _) hle).trans m4,Lp.next r m5⟩
    · exact out q f h1 h2 hle
structure Bl (n s:Nat) (f:Nat→TNum):Prop where
  srt:Blk ltN n s f
  rb:RB rkN n s f
theorem Bl.start {n s:Nat} {f:Nat→TNum} (h:Bl n s f) (hs:0<s):Ph2 n s (0 * (2 * s)) f:=by
  rw [Nat.zero_mul]
  refine ⟨fun q hq=>?_,fun q _=>h.srt q, ?_,fun i j _ h1 h2=>h.rb i j ?_ h2 h1⟩
  · rw [q_succ] at hq;omega
  · have:=h.rb.double;rwa [Nat.mul_comm] at this
  · have hij:i<j:=by
      apply Decidable.byContradiction
      intro hn
      have:=Nat.div_le_div_right (c:=s) (Nat.le_of_not_lt hn)
      omega
    omega
theorem bl_end {n t q:Nat} {g:Nat→TNum} (ht:0<t) (hq:n<q * t+t) (hd:∀ r,(r+1) * t≤q * t→Srt ltN (r * t) ((r+1) * t) g) (hl:Srt ltN (q * t) n g) (hr:RB rkN n t g):Bl n t g:=by
  refine ⟨fun r=>?_,hr⟩
  by_cases h1:r<q
  · have hm:=q_mono (t:=t) (show r+1≤q by omega)
    exact (hd r hm).sub (Nat.le_refl _) (Nat.min_le_left _ _)
  · by_cases h2:r=q
    · subst h2;exact hl.sub (Nat.le_refl _) (Nat.min_le_right _ _)
    · have hm:=q_mono (t:=t) (show q+1≤r by omega)
      rw [q_succ] at hm
      exact Srt.nil' (by have:=Nat.min_le_right ((r+1) * t) n;omega)
theorem l62c {n:Nat} (hn:n<bdN):∀ (d s:Nat) (f:Nat→TNum),n - s≤d→0<s→s<2 * bdN→Bl n s f→∃ z g,SP 0 n f g∧Srt ltN 0 n g ∧
    Lp pg i62_l2 ⟨[(0,D0 n),(1,iN n),(2,V.fn 40 []),(6,iN s)],[]::hR n f⟩ (.exit 2) ⟨[(0,D0 n),(1,iN n),(2,V.fn 40 []),(6,iN z),(30,V.d (D.bool false))],[]::hR n g⟩:=by
  have h30:bdN=1073741824:=rfl
  have out:∀ (s:Nat) (f:Nat→TNum),n≤s→Bl n s f→∃ z g,SP 0 n f g∧Srt ltN 0 n g ∧
      Lp pg i62_l2 ⟨[(0,D0 n),(1,iN n),(2,V.fn 40 []),(6,iN s)],[]::hR n f⟩ (.exit 2) ⟨[(0,D0 n),(1,iN n),(2,V.fn 40 []),(6,iN z),(30,V.d (D.bool false))],[]::hR n g⟩:=fun s f h1 h2=>by
    have:=h2.srt 0
    rw [Nat.zero_mul,Nat.zero_add,Nat.one_mul,Nat.min_eq_right h1] at this
    exact ⟨s,f,SP.refl _ _ _,this,Lp.exit (w62c_0 n f s (lt_f h1))⟩
  intro d
  induction d with
  | zero=>intro s f h hs _ hB;exact out s f (by omega) hB
  | succ d ih=>
    intro s f h hs hs2 hB
    by_cases hsn:n≤s
    · exact out s f hsn hB
    · obtain ⟨q,g,k1,k2,k3,k4,k5⟩:=l62b hn hs (by omega) n 0 f (by omega) (by omega) (hB.start hs)
      have hw2:IntKind.i64.wrap (2 * ((s:Nat):Int))=((2 * s:Nat):Int):=by rw [wrap64 (by omega) (by omega)];omega
      have hw3:IntKind.i64.wrap (((s:Nat):Int) * 2)=((2 * s:Nat):Int):=by rw [wrap64 (by omega) (by omega)];omega
      rw [Nat.zero_mul,Nat.zero_add] at k5
      have hw4:IntKind.i64.wrap (((q * (2 * s):Nat):Int)+((s:Nat):Int))=((q * (2 * s)+s:Nat):Int):=wadd (by omega)
      have hc0:=lt_t (i:=s) (j:=n) (by omega)
      by_cases hm:q * (2 * s)+s<n
      · obtain ⟨c1,c2,c3⟩:=k3.halves (b:=n) hs (by omega) (Nat.min_eq_right (by omega)).symm
        obtain ⟨g',m1,m2,m3⟩:=f73 hn (2 * s) (q * (2 * s)) (q * (2 * s)+s) n g (by omega) (by omega) hm (Nat.le_refl _) c1 c2 c3
        have hP:=k3.next hs k1 (Nat.le_refl _) (by omega) m1 m2
        have hB':Bl n (2 * s) g':=bl_end (q:=q) (by omega) k2 (fun r hr=>hP.done r (by omega)) m2 hP.rb
        obtain ⟨z,g'',e1,e2,e3⟩:=ih (2 * s) g' (by omega) (by omega) (by omega) hB'
        have r:=w62c_2 n f s (q * (2 * s)) (q * (2 * s)+2 * s) g g' hc0 (by rw [hw2];exact k5) (by rw [hw4];exact lt_t hm) (by rw [hw4];exact m3)
        rw [hw3] at r
        exact ⟨z,g'',(k4.trans (m1.wide (Nat.zero_le _) (Nat.le_refl _))).trans e1,e2,Lp.next r e3⟩
      · have hl:=k3.rest (2 * q) (by rw [two_q];exact Nat.le_refl _)
        rw [two_q,two_q1,Nat.min_eq_right (by omega)] at hl
        have hB':Bl n (2 * s) g:=bl_end (q:=q) (by omega) k2 k3.done hl k3.rb
        obtain ⟨z,g'',e1,e2,e3⟩:=ih (2 * s) g (by omega) (by omega) (by omega) hB'
        have r:=w62c_1 n f s (q * (2 * s)) (q * (2 * s)+2 * s) g hc0 (by rw [hw2];exact k5) (by rw [hw4];exact lt_f (by omega))
        rw [hw3] at r
        exact ⟨z,g'',k4.trans e1,e2,Lp.next r e3⟩
theorem f39 {n:Nat} (hn:n<bdN) (f:Nat→TNum) (hr:∀ x y,x<y→y<n→rkN (f x)<rkN (f y)):∃ g,SP 0 n f g∧Srt ltN 0 n g∧Rn pg 39 [V.msl 0 18 [] 0 n,V.fn 40 []] (hR n f) (V.tup []) (hR n g):=by
  have h30:bdN=1073741824:=rfl
  have hP:Ph1 n 20 (0 * 20) f:=⟨fun q hq=>by rw [q_succ] at hq;omega,fun i j _ hj hij=>hr i j (by
    apply Decidable.byContradiction
    intro hn
    have:=Nat.div_le_div_right (c:=20) (Nat.le_of_not_lt hn)
    omega) hj,fun x y _ h1 h2=>hr x y h1 h2⟩
  obtain ⟨q,g,k1,k2,k3,k4,k5⟩:=l62a hn (s:=20) (by omega) (by omega) n 0 f (by omega) (by omega) hP
  obtain ⟨g',m1,m2,m3⟩:=f72 (n:=n) (a:=q * 20) (b:=n) g hn (Nat.le_refl _) k1 fun x y g1 g2 g3=>k3.inc x y g1 g2 g3
  have hP':=k3.next (by omega) k1 (Nat.le_refl _) (by omega) m1 m2
  have hB:Bl n 20 g':=bl_end (q:=q) (by omega) k2 (fun r hr=>hP'.done r (by omega)) m2 hP'.rb
  obtain ⟨z,g'',e1,e2,e3⟩:=l62c hn n 20 g' (by omega) (by omega) (by omega) hB
  have r:=w62_0 n f (q * 20) (q * 20+20) g g' z g'' k5 m3 e3
  exact ⟨g'',(k4.trans (m1.wide (Nat.zero_le _) (Nat.le_refl _))).trans e1,e2,w39_0 n f g'' r⟩
end Go.Proofs.YtgmphfmoonbfpaaMv

namespace Go.Proofs.YtgmphfmoonbfpaaMv
open Go
theorem own_nilm {α:Type} (c:α→List D) (oc:α→List C) (h:∀ x,(c x).map C.d=oc x) (l:List α):List.map (ownify []) (List.map (fun x=>List.map C.d x) (l.map c))=l.map oc:=by
  simp only [List.map_map]
  apply List.map_congr_left
  intro x _
  simp only [Function.comp,h]
  rfl
def clC (s:Sl TRlc):C:=if s.l.isEmpty=true then C.d (D.sl s.nn []) else C.own 4 true (s.l.map TRlc.oc)
def TSec.ck (x:TSec):List C:=[C.d (D.str x.name),C.d (D.int .i64 x.kind),C.d (D.int .i64 x.align),C.d (D.int .i64 x.size),C.d (D.sl x.data.cl.nn (x.data.cl.l.map u8c)),clC x.relocs]
def ckr (l:List TSec) (i:Nat):List (List C):=(l.take i).map TSec.ck++(l.drop i).map TSec.oc
theorem ckr_len (l:List TSec) (i:Nat):(ckr l i).length=l.length:=by simp [ckr];omega
theorem ckr_get {l:List TSec} {i:Nat} {x:TSec} (h:l[i]? = some x):(ckr l i)[i]? = some x.oc:=by
  have hi:=(List.getElem?_eq_some_iff.1 h).1
  have hl:((l.take i).map TSec.ck).length=i:=by simp;omega
  rw [ckr,List.getElem?_append_right (by omega),hl,Nat.sub_self,List.getElem?_map,List.getElem?_drop,Nat.add_zero,h];rfl
theorem ckr_next {l:List TSec} {i:Nat} {x:TSec} (h:l[i]? = some x):(ckr l i).set i x.ck=ckr l (i+1):=by
  have hi:=(List.getElem?_eq_some_iff.1 h).1
  have hl:((l.take i).map TSec.ck).length=i:=by simp;omega
  have hd:l.drop i=x::l.drop (i+1):=by
    rw [List.drop_eq_getElem_cons hi]
    congr 1
    exact (List.getElem?_eq_some_iff.1 h).2
  have ht:l.take (i+1)=l.take i++[x]:=by
    rw [List.take_add_one,h];rfl
  simp only [ckr,ht,hd,List.map_append,List.map_cons,List.map_nil]
  rw [List.set_append_right _ _ (by omega),hl,Nat.sub_self]
  simp
theorem ckr_zero (l:List TSec):ckr l 0=l.map TSec.oc:=by simp [ckr]
theorem ckr_end (l:List TSec):ckr l l.length=l.map TSec.ck:=by simp [ckr]
end Go.Proofs.YtgmphfmoonbfpaaMv

set_option maxRecDepth 100000
namespace Go.Proofs.YtgmphfmoonbfpaaMv
open Go
theorem w61_0 (s:Sl TRlc)
 (c0:(!s.nn&&(s.l.map TRlc.c).isEmpty)=false)
 (c1:List.all (s.l.map TRlc.c) (fun x=>x.length==4)=true)
 (c2:(List.map (fun x=>List.map C.d x) (s.l.map TRlc.c)).length * 32≤room)
 (c3:(List.map (fun x=>List.map C.d x) (s.l.map TRlc.c)).isEmpty=false)
 (hr:expI ⟨[(2,V.msl 0 7 [] 0 ((List.map (fun x=>List.map C.d x) (s.l.map TRlc.c)).length))],[(7,Ob.row false 4 true (List.map (ownify []) (List.map (fun x=>List.map C.d x) (s.l.map TRlc.c))))]::[]::[]⟩ (.owns 2 48)=some (V.msl 0 48 [] 0 ((List.map (fun x=>List.map C.d x) (s.l.map TRlc.c)).length),[(48,Ob.row false 4 true (List.map (ownify []) (List.map (fun x=>List.map C.d x) (s.l.map TRlc.c))))])) :
 Rn pg 61 [V.d (D.sl s.nn (s.l.map TRlc.c))] ([]::[]) (V.msl 0 48 [] 0 ((List.map (fun x=>List.map C.d x) (s.l.map TRlc.c)).length)) ([(48,Ob.row false 4 true (List.map (ownify []) (List.map (fun x=>List.map C.d x) (s.l.map TRlc.c))))]::[]):=
 Rn.cx (fn:=i61) (ex:=.ret) (st:=⟨[(2,V.msl 0 7 [] 0 ((List.map (fun x=>List.map C.d x) (s.l.map TRlc.c)).length))],[(7,Ob.row false 4 true (List.map (ownify []) (List.map (fun x=>List.map C.d x) (s.l.map TRlc.c))))]::[]::[]⟩) (hs:=[.b false, .b false]) (cs:=[_,_,_,_]) (ir:=.owns 2 48) (l:=[(48,Ob.row false 4 true (List.map (ownify []) (List.map (fun x=>List.map C.d x) (s.l.map TRlc.c))))]) (t:=[(7,Ob.row false 4 true (List.map (ownify []) (List.map (fun x=>List.map C.d x) (s.l.map TRlc.c))))]) (hp':=[]::[])
 (by kernel_rfl) (by kernel_rfl) (by kernel_rfl) (by kernel_rfl) hr (by kernel_rfl) (by kernel_rfl) ⟨c0,c1,c2,c3,trivial⟩
theorem w61_1 (s:Sl TRlc)
 (c0:(!s.nn&&(s.l.map TRlc.c).isEmpty)=false)
 (c1:List.all (s.l.map TRlc.c) (fun x=>x.length==4)=true)
 (c2:(List.map (fun x=>List.map C.d x) (s.l.map TRlc.c)).length * 32≤room)
 (c3:(List.map (fun x=>List.map C.d x) (s.l.map TRlc.c)).isEmpty=true)
 (hr:expI ⟨[(2,V.z true)],[]::[]::[]⟩ (.owns 2 48)=some (V.d (D.sl true []),[])) :
 Rn pg 61 [V.d (D.sl s.nn (s.l.map TRlc.c))] ([]::[]) (V.d (D.sl true [])) ([]::[]):=
 Rn.cx (fn:=i61) (ex:=.ret) (st:=⟨[(2,V.z true)],[]::[]::[]⟩) (hs:=[.b false, .b true]) (cs:=[_,_,_,_]) (ir:=.owns 2 48) (l:=[]) (t:=[]) (hp':=[]::[])
 (by kernel_rfl) (by kernel_rfl) (by kernel_rfl) (by kernel_rfl) hr (by kernel_rfl) (by kernel_rfl) ⟨c0,c1,c2,c3,trivial⟩
theorem w61_2 (s:Sl TRlc)
 (c0:(!s.nn&&(s.l.map TRlc.c).isEmpty)=true)
 (hr:expI ⟨[(2,V.d (D.sl false []))],[]::[]::[]⟩ (.owns 2 48)=some (V.d (D.sl false []),[])) :
 Rn pg 61 [V.d (D.sl s.nn (s.l.map TRlc.c))] ([]::[]) (V.d (D.sl false [])) ([]::[]):=
 Rn.cx (fn:=i61) (ex:=.ret) (st:=⟨[(2,V.d (D.sl false []))],[]::[]::[]⟩) (hs:=[.b true]) (cs:=[_]) (ir:=.owns 2 48) (l:=[]) (t:=[]) (hp':=[]::[])
 (by kernel_rfl) (by kernel_rfl) (by kernel_rfl) (by kernel_rfl) hr (by kernel_rfl) (by kernel_rfl) ⟨c0,trivial⟩
theorem w24_0 (s:Sl TSym)
 (c0:(!s.nn&&(s.l.map TSym.c).isEmpty)=false)
 (c1:List.all (s.l.map TSym.c) (fun x=>x.length==4)=true)
 (c2:(List.map (fun x=>List.map C.d x) (s.l.map TSym.c)).length * 40≤room)
 (c3:(List.map (fun x=>List.map C.d x) (s.l.map TSym.c)).isEmpty=false)
 (hr:expI ⟨[(2,V.msl 0 7 [] 0 ((List.map (fun x=>List.map C.d x) (s.l.map TSym.c)).length))],[(7,Ob.row false 4 true (List.map (ownify []) (List.map (fun x=>List.map C.d x) (s.l.map TSym.c))))]::[]::[]⟩ (.owns 2 56)=some (V.msl 0 56 [] 0 ((List.map (fun x=>List.map C.d x) (s.l.map TSym.c)).length),[(56,Ob.row false 4 true (List.map (ownify []) (List.map (fun x=>List.map C.d x) (s.l.map TSym.c))))])) :
 Rn pg 24 [V.d (D.sl s.nn (s.l.map TSym.c))] ([]::[]) (V.msl 0 56 [] 0 ((List.map (fun x=>List.map C.d x) (s.l.map TSym.c)).length)) ([(56,Ob.row false 4 true (List.map (ownify []) (List.map (fun x=>List.map C.d x) (s.l.map TSym.c))))]::[]):=
 Rn.cx (fn:=i24) (ex:=.ret) (st:=⟨[(2,V.msl 0 7 [] 0 ((List.map (fun x=>List.map C.d x) (s.l.map TSym.c)).length))],[(7,Ob.row false 4 true (List.map (ownify []) (List.map (fun x=>List.map C.d x) (s.l.map TSym.c))))]::[]::[]⟩) (hs:=[.b false, .b false]) (cs:=[_,_,_,_]) (ir:=.owns 2 56) (l:=[(56,Ob.row false 4 true (List.map (ownify []) (List.map (fun x=>List.map C.d x) (s.l.map TSym.c))))]) (t:=[(7,Ob.row false 4 true (List.map (ownify []) (List.map (fun x=>List.map C.d x) (s.l.map TSym.c))))]) (hp':=[]::[])
 (by kernel_rfl) (by kernel_rfl) (by kernel_rfl) (by kernel_rfl) hr (by kernel_rfl) (by kernel_rfl) ⟨c0,c1,c2,c3,trivial⟩
theorem w24_1 (s:Sl TSym)
 (c0:(!s.nn&&(s.l.map TSym.c).isEmpty)=false)
 (c1:List.all (s.l.map TSym.c) (fun x=>x.length==4)=true)
 (c2:(List.map (fun x=>List.map C.d x) (s.l.map TSym.c)).length * 40≤room)
 (c3:(List.map (fun x=>List.map C.d x) (s.l.map TSym.c)).isEmpty=true)
 (hr:expI ⟨[(2,V.z true)],[]::[]::[]⟩ (.owns 2 56)=some (V.d (D.sl true []),[])) :
 Rn pg 24 [V.d (D.sl s.nn (s.l.map TSym.c))] ([]::[]) (V.d (D.sl true [])) ([]::[]):=
 Rn.cx (fn:=i24) (ex:=.ret) (st:=⟨[(2,V.z true)],[]::[]::[]⟩) (hs:=[.b false, .b true]) (cs:=[_,_,_,_]) (ir:=.owns 2 56) (l:=[]) (t:=[]) (hp':=[]::[])
 (by kernel_rfl) (by kernel_rfl) (by kernel_rfl) (by kernel_rfl) hr (by kernel_rfl) (by kernel_rfl) ⟨c0,c1,c2,c3,trivial⟩
theorem w24_2 (s:Sl TSym)
 (c0:(!s.nn&&(s.l.map TSym.c).isEmpty)=true)
 (hr:expI ⟨[(2,V.d (D.sl false []))],[]::[]::[]⟩ (.owns 2 56)=some (V.d (D.sl false []),[])) :
 Rn pg 24 [V.d (D.sl s.nn (s.l.map TSym.c))] ([]::[]) (V.d (D.sl false [])) ([]::[]):=
 Rn.cx (fn:=i24) (ex:=.ret) (st:=⟨[(2,V.d (D.sl false []))],[]::[]::[]⟩) (hs:=[.b true]) (cs:=[_]) (ir:=.owns 2 56) (l:=[]) (t:=[]) (hp':=[]::[])
 (by kernel_rfl) (by kernel_rfl) (by kernel_rfl) (by kernel_rfl) hr (by kernel_rfl) (by kernel_rfl) ⟨c0,trivial⟩
theorem w38a_0 (l:List TSec) (i:Nat) (ys:List (List C)) (hp:HL)
    (c0:(decide (((i:Nat):Int)<((l.length:Nat):Int)))=false) :
    Ev pg i38_l0 ⟨[(2,V.ptr 0 2 [] 0 0),(3,V.ptr 0 3 [] 0 0),(27,V.d (D.int .i64 ((l.length:Nat):Int))),(28,V.d (D.int .i64 ((i:Nat):Int)))],[(2,Ob.row true 2 true [[C.d (D.sl false []),C.d (D.sl false [])]]),(3,Ob.row true 2 true [[C.own 6 true (ckr l i),C.own 4 true ys]])]::hp⟩ (.exit 0) ⟨[(2,V.ptr 0 2 [] 0 0),(3,V.ptr 0 3 [] 0 0),(27,V.d (D.int .i64 ((l.length:Nat):Int))),(28,V.d (D.int .i64 ((i:Nat):Int))),(29,V.d (D.bool false))],[(2,Ob.row true 2 true [[C.d (D.sl false []),C.d (D.sl false [])]]),(3,Ob.row true 2 true [[C.own 6 true (ckr l i),C.own 4 true ys]])]::hp⟩:=
  by
  have r:Ev pg i38_l0 ⟨[(2,V.ptr 0 2 [] 0 0),(3,V.ptr 0 3 [] 0 0),(27,V.d (D.int .i64 ((l.length:Nat):Int))),(28,V.d (D.int .i64 ((i:Nat):Int)))],[(2,Ob.row true 2 true [[C.d (D.sl false []),C.d (D.sl false [])]]),(3,Ob.row true 2 true [[C.own 6 true (ckr l i),C.own 4 true ys]])]::hp⟩ (.exit 0) ⟨[(2,V.ptr 0 2 [] 0 0),(3,V.ptr 0 3 [] 0 0),(27,V.d (D.int .i64 ((l.length:Nat):Int))),(28,V.d (D.int .i64 ((i:Nat):Int))),(29,V.d (D.bool (decide (((i:Nat):Int)<((l.length:Nat):Int)))))],[(2,Ob.row true 2 true [[C.d (D.sl false []),C.d (D.sl false [])]]),(3,Ob.row true 2 true [[C.own 6 true (ckr l i),C.own 4 true ys]])]::hp⟩:=
  codeC_ok (hs:=[.b false]) (hs':=[]) (cs:=[_]) (by kernel_rfl) ⟨c0,trivial⟩
  simp only [c0] at r
  exact r
theorem w38a_1 (l:List TSec) (i:Nat) (ys:List (List C)) (hp:HL) (x1:TSec)
    (c0:(decide (((i:Nat):Int)<((l.length:Nat):Int)))=true)
    (c1:i<((ckr l i).length))
    (c2:cellAt (ckr l i) i 4=some (C.d (D.sl x1.data.nn (x1.data.l.map u8c))))
    (c3:Rn pg 33 [V.d (D.sl x1.data.nn (x1.data.l.map u8c))] ([]) (V.d (D.sl x1.data.cl.nn (x1.data.cl.l.map u8c))) ([]))
    (c4:(ckr l i)[i]? = some [C.d (D.str x1.name),C.d (D.int .i64 x1.kind),C.d (D.int .i64 x1.align),C.d (D.int .i64 x1.size),C.d (D.sl x1.data.nn (x1.data.l.map u8c)),C.d (D.sl x1.relocs.nn (x1.relocs.l.map TRlc.c))])
    (c5:cellAt (setCells (ckr l i) i 4 [C.d (D.sl x1.data.cl.nn (x1.data.cl.l.map u8c))]) i 5=some (C.d (D.sl x1.relocs.nn (x1.relocs.l.map TRlc.c))))
    (c6:Rn pg 61 [V.d (D.sl x1.relocs.nn (x1.relocs.l.map TRlc.c))] [[]] (V.msl 0 48 [] 0 x1.relocs.l.length) [[(48,Ob.row false 4 true (x1.relocs.l.map TRlc.oc))]])
    (c7:(x1.relocs.l.map TRlc.oc).length=x1.relocs.l.length)
    (c8:(setCells (ckr l i) i 4 [C.d (D.sl x1.data.cl.nn (x1.data.cl.l.map u8c))])[i]? = some [C.d (D.str x1.name),C.d (D.int .i64 x1.kind),C.d (D.int .i64 x1.align),C.d (D.int .i64 x1.size),C.d (D.sl x1.data.cl.nn (x1.data.cl.l.map u8c)),C.d (D.sl x1.relocs.nn (x1.relocs.l.map TRlc.c))]) :
    Ev pg i38_l0 ⟨[(2,V.ptr 0 2 [] 0 0),(3,V.ptr 0 3 [] 0 0),(27,V.d (D.int .i64 ((l.length:Nat):Int))),(28,V.d (D.int .i64 ((i:Nat):Int)))],[(2,Ob.row true 2 true [[C.d (D.sl false []),C.d (D.sl false [])]]),(3,Ob.row true 2 true [[C.own 6 true (ckr l i),C.own 4 true ys]])]::hp⟩ .normal ⟨[(2,V.ptr 0 2 [] 0 0),(3,V.ptr 0 3 [] 0 0),(27,V.d (D.int .i64 ((l.length:Nat):Int))),(28,V.d (D.int .i64 (IntKind.i64.wrap (((i:Nat):Int)+1))))],[(2,Ob.row true 2 true [[C.d (D.sl false []),C.d (D.sl false [])]]),(3,Ob.row true 2 true [[C.own 6 true (setCells (setCells (ckr l i) i 4 [C.d (D.sl x1.data.cl.nn (x1.data.cl.l.map u8c))]) i 5 [C.own 4 true (x1.relocs.l.map TRlc.oc)]),C.own 4 true ys]])]::hp⟩:=
  codeC_ok (hs:=[.b true, .n i, .c (C.d (D.sl x1.data.nn (x1.data.l.map u8c))), .call (V.d (D.sl x1.data.cl.nn (x1.data.cl.l.map u8c))) ([]), .cs [C.d (D.str x1.name),C.d (D.int .i64 x1.kind),C.d (D.int .i64 x1.align),C.d (D.int .i64 x1.size),C.d (D.sl x1.data.nn (x1.data.l.map u8c)),C.d (D.sl x1.relocs.nn (x1.relocs.l.map TRlc.c))], .c (C.d (D.sl x1.relocs.nn (x1.relocs.l.map TRlc.c))), .call (V.msl 0 48 [] 0 x1.relocs.l.length) [[(48,Ob.row false 4 true (x1.relocs.l.map TRlc.oc))]], .cs [C.d (D.str x1.name),C.d (D.int .i64 x1.kind),C.d (D.int .i64 x1.align),C.d (D.int .i64 x1.size),C.d (D.sl x1.data.cl.nn (x1.data.cl.l.map u8c)),C.d (D.sl x1.relocs.nn (x1.relocs.l.map TRlc.c))]]) (hs':=[]) (cs:=[_,((i:Nat):Int)=((i:Nat):Int),_,_,_,_,_,_,_,_]) (by kernel_rfl) ⟨c0,rfl,c1,c2,c3,c4,c5,c6,c7,c8,trivial⟩
theorem w38a_2 (l:List TSec) (i:Nat) (ys:List (List C)) (hp:HL) (x1:TSec)
    (c0:(decide (((i:Nat):Int)<((l.length:Nat):Int)))=true)
    (c1:i<((ckr l i).length))
    (c2:cellAt (ckr l i) i 4=some (C.d (D.sl x1.data.nn (x1.data.l.map u8c))))
    (c3:Rn pg 33 [V.d (D.sl x1.data.nn (x1.data.l.map u8c))] ([]) (V.d (D.sl x1.data.cl.nn (x1.data.cl.l.map u8c))) ([]))
    (c4:(ckr l i)[i]? = some [C.d (D.str x1.name),C.d (D.int .i64 x1.kind),C.d (D.int .i64 x1.align),C.d (D.int .i64 x1.size),C.d (D.sl x1.data.nn (x1.data.l.map u8c)),C.d (D.sl x1.relocs.nn (x1.relocs.l.map TRlc.c))])
    (c5:cellAt (setCells (ckr l i) i 4 [C.d (D.sl x1.data.cl.nn (x1.data.cl.l.map u8c))]) i 5=some (C.d (D.sl x1.relocs.nn (x1.relocs.l.map TRlc.c))))
    (c6:Rn pg 61 [V.d (D.sl x1.relocs.nn (x1.relocs.l.map TRlc.c))] [[]] (V.d (D.sl x1.relocs.nn [])) [[]])
    (c7:(setCells (ckr l i) i 4 [C.d (D.sl x1.data.cl.nn (x1.data.cl.l.map u8c))])[i]? = some [C.d (D.str x1.name),C.d (D.int .i64 x1.kind),C.d (D.int .i64 x1.align),C.d (D.int .i64 x1.size),C.d (D.sl x1.data.cl.nn (x1.data.cl.l.map u8c)),C.d (D.sl x1.relocs.nn (x1.relocs.l.map TRlc.c))]) :
    Ev pg i38_l0 ⟨[(2,V.ptr 0 2 [] 0 0),(3,V.ptr 0 3 [] 0 0),(27,V.d (D.int .i64 ((l.length:Nat):Int))),(28,V.d (D.int .i64 ((i:Nat):Int)))],[(2,Ob.row true 2 true [[C.d (D.sl false []),C.d (D.sl false [])]]),(3,Ob.row true 2 true [[C.own 6 true (ckr l i),C.own 4 true ys]])]::hp⟩ .normal ⟨[(2,V.ptr 0 2 [] 0 0),(3,V.ptr 0 3 [] 0 0),(27,V.d (D.int .i64 ((l.length:Nat):Int))),(28,V.d (D.int .i64 (IntKind.i64.wrap (((i:Nat):Int)+1))))],[(2,Ob.row true 2 true [[C.d (D.sl false []),C.d (D.sl false [])]]),(3,Ob.row true 2 true [[C.own 6 true (setCells (setCells (ckr l i) i 4 [C.d (D.sl x1.data.cl.nn (x1.data.cl.l.map u8c))]) i 5 [C.d (D.sl x1.relocs.nn [])]),C.own 4 true ys]])]::hp⟩:=
  codeC_ok (hs:=[.b true, .n i, .c (C.d (D.sl x1.data.nn (x1.data.l.map u8c))), .call (V.d (D.sl x1.data.cl.nn (x1.data.cl.l.map u8c))) ([]), .cs [C.d (D.str x1.name),C.d (D.int .i64 x1.kind),C.d (D.int .i64 x1.align),C.d (D.int .i64 x1.size),C.d (D.sl x1.data.nn (x1.data.l.map u8c)),C.d (D.sl x1.relocs.nn (x1.relocs.l.map TRlc.c))], .c (C.d (D.sl x1.relocs.nn (x1.relocs.l.map TRlc.c))), .call (V.d (D.sl x1.relocs.nn [])) [[]], .cs [C.d (D.str x1.name),C.d (D.int .i64 x1.kind),C.d (D.int .i64 x1.align),C.d (D.int .i64 x1.size),C.d (D.sl x1.data.cl.nn (x1.data.cl.l.map u8c)),C.d (D.sl x1.relocs.nn (x1.relocs.l.map TRlc.c))]]) (hs':=[]) (cs:=[_,((i:Nat):Int)=((i:Nat):Int),_,_,_,_,_,_,_]) (by kernel_rfl) ⟨c0,rfl,c1,c2,c3,c4,c5,c6,c7,trivial⟩
theorem w38_0 (o:TObj)
 (c0:88 * ((o.sections.l.map TSec.c).length)≤room)
 (c1:40 * ((o.symbols.l.map TSym.c).length)≤room)
 (c2:(List.replicate ((o.sections.l.map TSec.c).length) [C.d (D.str ([])),C.d (D.int .i64 0),C.d (D.int .i64 0),C.d (D.int .i64 0),C.d (D.sl false []),C.d (D.sl false [])]).length=((o.sections.l.map TSec.c).length))
 (c3:(List.replicate ((o.symbols.l.map TSym.c).length) [C.d (D.str ([])),C.d (D.int .i64 0),C.d (D.int .i64 0),C.d (D.bool false)]).length=((o.symbols.l.map TSym.c).length))
 (c4:List.all (o.sections.l.map TSec.c) (fun x=>x.length==6)=true)
 (c5:0+((List.replicate ((o.sections.l.map TSec.c).length) [C.d (D.str ([])),C.d (D.int .i64 0),C.d (D.int .i64 0),C.d (D.int .i64 0),C.d (D.sl false []),C.d (D.sl false [])]).length)≤(List.replicate ((o.sections.l.map TSec.c).length) [C.d (D.str ([])),C.d (D.int .i64 0),C.d (D.int .i64 0),C.d (D.int .i64 0),C.d (D.sl false []),C.d (D.sl false [])]).length)
 (c6:(allDs (List.replicate ((o.sections.l.map TSec.c).length) [C.d (D.str ([])),C.d (D.int .i64 0),C.d (D.int .i64 0),C.d (D.int .i64 0),C.d (D.sl false []),C.d (D.sl false [])])).isSome=true)
 (c7:List.all (o.symbols.l.map TSym.c) (fun x=>x.length==4)=true)
 (c8:0+((List.replicate ((o.symbols.l.map TSym.c).length) [C.d (D.str ([])),C.d (D.int .i64 0),C.d (D.int .i64 0),C.d (D.bool false)]).length)≤(List.replicate ((o.symbols.l.map TSym.c).length) [C.d (D.str ([])),C.d (D.int .i64 0),C.d (D.int .i64 0),C.d (D.bool false)]).length)
 (c9:(allDs (List.replicate ((o.symbols.l.map TSym.c).length) [C.d (D.str ([])),C.d (D.int .i64 0),C.d (D.int .i64 0),C.d (D.bool false)])).isSome=true)
 (c10:Lp pg i38_l0 ⟨[(2,V.ptr 0 2 [] 0 0),(3,V.ptr 0 3 [] 0 0),(27,V.d (D.int .i64 (((List.take 0 (List.replicate ((o.sections.l.map TSec.c).length) [C.d (D.str ([])),C.d (D.int .i64 0),C.d (D.int .i64 0),C.d (D.int .i64 0),C.d (D.sl false []),C.d (D.sl false [])])++List.take (min (List.map (fun x=>List.map C.d x) (o.sections.l.map TSec.c)).length ((List.replicate ((o.sections.l.map TSec.c).length) [C.d (D.str ([])),C.d (D.int .i64 0),C.d (D.int .i64 0),C.d (D.int .i64 0),C.d (D.sl false []),C.d (D.sl false [])]).length)) (List.map (fun x=>List.map C.d x) (o.sections.l.map TSec.c))++List.drop (0+(min (List.map (fun x=>List.map C.d x) (o.sections.l.map TSec.c)).length ((List.replicate ((o.sections.l.map TSec.c).length) [C.d (D.str ([])),C.d (D.int .i64 0),C.d (D.int .i64 0),C.d (D.int .i64 0),C.d (D.sl false []),C.d (D.sl false [])]).length))) (List.replicate ((o.sections.l.map TSec.c).length) [C.d (D.str ([])),C.d (D.int .i64 0),C.d (D.int .i64 0),C.d (D.int .i64 0),C.d (D.sl false []),C.d (D.sl false [])])).length:Nat):Int))),(28,V.d (D.int .i64 0))],[(2,Ob.row true 2 true [[C.d (D.sl false []),C.d (D.sl false [])]]),(3,Ob.row true 2 true [[C.own 6 true (List.take 0 (List.replicate ((o.sections.l.map TSec.c).length) [C.d (D.str ([])),C.d (D.int .i64 0),C.d (D.int .i64 0),C.d (D.int .i64 0),C.d (D.sl false []),C.d (D.sl false [])])++List.take (min (List.map (fun x=>List.map C.d x) (o.sections.l.map TSec.c)).length ((List.replicate ((o.sections.l.map TSec.c).length) [C.d (D.str ([])),C.d (D.int .i64 0),C.d (D.int .i64 0),C.d (D.int .i64 0),C.d (D.sl false []),C.d (D.sl false [])]).length)) (List.map (fun x=>List.map C.d x) (o.sections.l.map TSec.c))++List.drop (0+(min (List.map (fun x=>List.map C.d x) (o.sections.l.map TSec.c)).length ((List.replicate ((o.sections.l.map TSec.c).length) [C.d (D.str ([])),C.d (D.int .i64 0),C.d (D.int .i64 0),C.d (D.int .i64 0),C.d (D.sl false []),C.d (D.sl false [])]).length))) (List.replicate ((o.sections.l.map TSec.c).length) [C.d (D.str ([])),C.d (D.int .i64 0),C.d (D.int .i64 0),C.d (D.int .i64 0),C.d (D.sl false []),C.d (D.sl false [])])),C.own 4 true (List.take 0 (List.replicate ((o.symbols.l.map TSym.c).length) [C.d (D.str ([])),C.d (D.int .i64 0),C.d (D.int .i64 0),C.d (D.bool false)])++List.take (min (List.map (fun x=>List.map C.d x) (o.symbols.l.map TSym.c)).length ((List.replicate ((o.symbols.l.map TSym.c).length) [C.d (D.str ([])),C.d (D.int .i64 0),C.d (D.int .i64 0),C.d (D.bool false)]).length)) (List.map (fun x=>List.map C.d x) (o.symbols.l.map TSym.c))++List.drop (0+(min (List.map (fun x=>List.map C.d x) (o.symbols.l.map TSym.c)).length ((List.replicate ((o.symbols.l.map TSym.c).length) [C.d (D.str ([])),C.d (D.int .i64 0),C.d (D.int .i64 0),C.d (D.bool false)]).length))) (List.replicate ((o.symbols.l.map TSym.c).length) [C.d (D.str ([])),C.d (D.int .i64 0),C.d (D.int .i64 0),C.d (D.bool false)]))]])]::[]::[]⟩ (.exit 0) ⟨[(2,V.ptr 0 2 [] 0 0),(3,V.ptr 0 3 [] 0 0),(27,V.d (D.int .i64 ((o.sections.l.length:Nat):Int))),(28,V.d (D.int .i64 ((o.sections.l.length:Nat):Int))),(29,V.d (D.bool false))],[(2,Ob.row true 2 true [[C.d (D.sl false []),C.d (D.sl false [])]]),(3,Ob.row true 2 true [[C.own 6 true (ckr o.sections.l o.sections.l.length),C.own 4 true (o.symbols.l.map TSym.oc)]])]::[]::[]⟩)
 (hr:expI ⟨[(2,V.ptr 0 2 [] 0 0)],[(2,Ob.row true 2 true [[C.own 6 true (ckr o.sections.l o.sections.l.length),C.own 4 true (o.symbols.l.map TSym.oc)]])]::[]::[]⟩ (.ownc 2 2 14)=some (V.agg [V.msl 0 14 [] 0 ((ckr o.sections.l o.sections.l.length).length),V.msl 0 15 [] 0 ((o.symbols.l.map TSym.oc).length)],[(14,Ob.row false 6 true (ckr o.sections.l o.sections.l.length)),(15,Ob.row false 4 true (o.symbols.l.map TSym.oc))])) :
 Rn pg 38 [V.d (D.agg [D.sl o.sections.nn (o.sections.l.map TSec.c),D.sl o.symbols.nn (o.symbols.l.map TSym.c)])] ([]::[]) (V.agg [V.msl 0 14 [] 0 ((ckr o.sections.l o.sections.l.length).length),V.msl 0 15 [] 0 ((o.symbols.l.map TSym.oc).length)]) ([(14,Ob.row false 6 true (ckr o.sections.l o.sections.l.length)),(15,Ob.row false 4 true (o.symbols.l.map TSym.oc))]::[]):=
 Rn.cx (fn:=i38) (ex:=.ret) (st:=⟨[(2,V.ptr 0 2 [] 0 0)],[(2,Ob.row true 2 true [[C.own 6 true (ckr o.sections.l o.sections.l.length),C.own 4 true (o.symbols.l.map TSym.oc)]])]::[]::[]⟩) (hs:=[.n ((o.sections.l.map TSec.c).length), .n ((o.symbols.l.map TSym.c).length), .lp (.exit 0) ⟨[(2,V.ptr 0 2 [] 0 0),(3,V.ptr 0 3 [] 0 0),(27,V.d (D.int .i64 ((o.sections.l.length:Nat):Int))),(28,V.d (D.int .i64 ((o.sections.l.length:Nat):Int))),(29,V.d (D.bool false))],[(2,Ob.row true 2 true [[C.d (D.sl false []),C.d (D.sl false [])]]),(3,Ob.row true 2 true [[C.own 6 true (ckr o.sections.l o.sections.l.length),C.own 4 true (o.symbols.l.map TSym.oc)]])]::[]::[]⟩]) (cs:=[(((o.sections.l.map TSec.c).length:Nat):Int)=(((o.sections.l.map TSec.c).length:Nat):Int),_,(((o.symbols.l.map TSym.c).length:Nat):Int)=(((o.symbols.l.map TSym.c).length:Nat):Int),_,_,_,_,_,_,_,_,_,_]) (ir:=.ownc 2 2 14) (l:=[(14,Ob.row false 6 true (ckr o.sections.l o.sections.l.length)),(15,Ob.row false 4 true (o.symbols.l.map TSym.oc))]) (t:=[(2,Ob.row true 2 true [[C.own 6 true (ckr o.sections.l o.sections.l.length),C.own 4 true (o.symbols.l.map TSym.oc)]])]) (hp':=[]::[])
 (by kernel_rfl) (by kernel_rfl) (by kernel_rfl) (by kernel_rfl) hr (by kernel_rfl) (by kernel_rfl) ⟨rfl,c0,rfl,c1,c2,c3,c4,c5,c6,c7,c8,c9,c10,trivial⟩
end Go.Proofs.YtgmphfmoonbfpaaMv

set_option maxRecDepth 100000
namespace Go.Proofs.YtgmphfmoonbfpaaMv
open Go
theorem f61a (s:Sl TRlc) (hl:s.l.length<2 ^ 30) (hne:s.l.isEmpty=false):Rn pg 61 [V.d (D.sl s.nn (s.l.map TRlc.c))] [[]] (V.msl 0 48 [] 0 s.l.length) [[(48,Ob.row false 4 true (s.l.map TRlc.oc))]]:=by
  have hn:s.l≠[]:=by intro h;rw [h] at hne;simp at hne
  have e:=own_nilm TRlc.c TRlc.oc (fun _=>rfl) s.l
  have el:(List.map (fun x=>List.map C.d x) (s.l.map TRlc.c)).length=s.l.length:=by simp
  have r:=w61_0 s (by simp [hn]) (all_len (f:=TRlc.c) (fun _=>rfl) _) (by simp [room_eq];omega) (by simp [hn]) (by simp [expI,St.f,look,hof])
  rw [e,el] at r
  exact r
theorem f61b (s:Sl TRlc) (hne:s.l.isEmpty=true):Rn pg 61 [V.d (D.sl s.nn (s.l.map TRlc.c))] [[]] (V.d (D.sl s.nn [])) [[]]:=by
  have hn:s.l=[]:=by simpa using hne
  cases hb:s.nn with
  | true=>
    have r:=w61_1 s (by simp [hb]) (by simp [hn]) (by simp [hn,room]) (by simp [hn]) rfl
    rw [hb] at r
    exact r
  | false=>
    have r:=w61_2 s (by simp [hb,hn]) rfl
    rw [hb] at r
    exact r
theorem f24a (s:Sl TSym) (hl:s.l.length<2 ^ 30) (hne:s.l.isEmpty=false):Rn pg 24 [V.d (D.sl s.nn (s.l.map TSym.c))] [[]] (V.msl 0 56 [] 0 s.l.length) [[(56,Ob.row false 4 true (s.l.map TSym.oc))]]:=by
  have hn:s.l≠[]:=by intro h;rw [h] at hne;simp at hne
  have e:=own_nilm TSym.c TSym.oc (fun _=>rfl) s.l
  have el:(List.map (fun x=>List.map C.d x) (s.l.map TSym.c)).length=s.l.length:=by simp
  have r:=w24_0 s (by simp [hn]) (all_len (f:=TSym.c) (fun _=>rfl) _) (by simp [room_eq];omega) (by simp [hn]) (by simp [expI,St.f,look,hof])
  rw [e,el] at r
  exact r
theorem f24b (s:Sl TSym) (hne:s.l.isEmpty=true):Rn pg 24 [V.d (D.sl s.nn (s.l.map TSym.c))] [[]] (V.d (D.sl s.nn [])) [[]]:=by
  have hn:s.l=[]:=by simpa using hne
  cases hb:s.nn with
  | true=>
    have r:=w24_1 s (by simp [hb]) (by simp [hn]) (by simp [hn,room]) (by simp [hn]) rfl
    rw [hb] at r
    exact r
  | false=>
    have r:=w24_2 s (by simp [hb,hn]) rfl
    rw [hb] at r
    exact r
theorem ckr_set {l:List TSec} {i:Nat} {x:TSec} (h:l[i]? = some x) (d:C) (r:C):setCells (setCells (ckr l i) i 4 [d]) i 5 [r]=(ckr l i).set i [C.d (D.str x.name),C.d (D.int .i64 x.kind),C.d (D.int .i64 x.align),C.d (D.int .i64 x.size),d,r]:=by
  have hg:=ckr_get h
  have hi:i<(ckr l i).length:=(List.getElem?_eq_some_iff.1 hg).1
  have e1:setCells (ckr l i) i 4 [d]=(ckr l i).set i [C.d (D.str x.name),C.d (D.int .i64 x.kind),C.d (D.int .i64 x.align),C.d (D.int .i64 x.size),d,C.d (D.sl x.relocs.nn (x.relocs.l.map TRlc.c))]:=by
    simp only [setCells,hg];rfl
  rw [e1]
  simp only [setCells,List.getElem?_set_self hi,List.set_set]
  rfl
theorem ckr_get4 {l:List TSec} {i:Nat} {x:TSec} (h:l[i]? = some x) (d:C):(setCells (ckr l i) i 4 [d])[i]? = some [C.d (D.str x.name),C.d (D.int .i64 x.kind),C.d (D.int .i64 x.align),C.d (D.int .i64 x.size),d,C.d (D.sl x.relocs.nn (x.relocs.l.map TRlc.c))]:=by
  have hg:=ckr_get h
  have hi:i<(ckr l i).length:=(List.getElem?_eq_some_iff.1 hg).1
  simp only [setCells,hg,List.getElem?_set_self hi];rfl
theorem cellAt_of {es:List (List C)} {i o:Nat} {cs:List C} {c:C} (h:es[i]? = some cs) (h2:cs[o]? = some c):cellAt es i o=some c:=by simp [cellAt,h,h2]
structure objOk (x:TObj):Prop where
  secs:x.sections.l.length<2 ^ 30
  syms:x.symbols.l.length<2 ^ 30
  data:∀ s ∈ x.sections.l,s.data.l.length<2 ^ 30
  rels:∀ s ∈ x.sections.l,s.relocs.l.length<2 ^ 30
theorem l38 (l:List TSec) (ys:List (List C)) (hp:HL) (hl:l.length<2 ^ 30) (hd:∀ s ∈ l,s.data.l.length<2 ^ 30) (hr:∀ s ∈ l,s.relocs.l.length<2 ^ 30):∀ (d i:Nat),l.length - i=d→i≤l.length →
    Lp pg i38_l0 ⟨[(2,V.ptr 0 2 [] 0 0),(3,V.ptr 0 3 [] 0 0),(27,iN l.length),(28,iN i)],[(2,Ob.row true 2 true [[C.d (D.sl false []),C.d (D.sl false [])]]),(3,Ob.row true 2 true [[C.own 6 true (ckr l i),C.own 4 true ys]])]::hp⟩ (.exit 0)
      ⟨[(2,V.ptr 0 2 [] 0 0),(3,V.ptr 0 3 [] 0 0),(27,iN l.length),(28,iN l.length),(29,V.d (D.bool false))],[(2,Ob.row true 2 true [[C.d (D.sl false []),C.d (D.sl false [])]]),(3,Ob.row true 2 true [[C.own 6 true (ckr l l.length),C.own 4 true ys]])]::hp⟩:=by
  intro d
  induction d with
  | zero=>
    intro i h h1
    obtain rfl:i=l.length:=by omega
    exact Lp.exit (w38a_0 l l.length ys hp (lt_f (Nat.le_refl _)))
  | succ d ih=>
    intro i h h1
    have hi:i<l.length:=by omega
    have hx:l[i]? = some l[i]:=List.getElem?_eq_getElem hi
    have hm:l[i] ∈ l:=List.getElem_mem hi
    have g:=ckr_get hx
    have r33:=f33 l[i].data [] (hd _ hm)
    have hnx:=ih (i+1) (by omega) (by omega)
    have hw:IntKind.i64.wrap (((i:Nat):Int)+1)=((i+1:Nat):Int):=wadd1 (by omega)
    have g4:=ckr_get4 hx (C.d (D.sl l[i].data.cl.nn (l[i].data.cl.l.map u8c)))
    cases he:l[i].relocs.l.isEmpty with
    | false=>
      have e:setCells (setCells (ckr l i) i 4 [C.d (D.sl l[i].data.cl.nn (l[i].data.cl.l.map u8c))]) i 5 [C.own 4 true (l[i].relocs.l.map TRlc.oc)]=ckr l (i+1):=by
        rw [ckr_set hx,←ckr_next hx]
        congr 1
        simp only [TSec.ck,clC,he,Bool.false_eq_true,if_false]
      have r:=w38a_1 l i ys hp l[i] (lt_t hi) (by rw [ckr_len];exact hi) (cellAt_of g rfl) r33 g (cellAt_of g4 rfl) (f61a _ (hr _ hm) he) (by simp) g4
      rw [hw,e] at r
      exact Lp.next r hnx
    | true=>
      have e:setCells (setCells (ckr l i) i 4 [C.d (D.sl l[i].data.cl.nn (l[i].data.cl.l.map u8c))]) i 5 [C.d (D.sl l[i].relocs.nn [])]=ckr l (i+1):=by
        rw [ckr_set hx,←ckr_next hx]
        congr 1
        simp only [TSec.ck,clC,he,if_true]
      have r:=w38a_2 l i ys hp l[i] (lt_t hi) (by rw [ckr_len];exact hi) (cellAt_of g rfl) r33 g (cellAt_of g4 rfl) (f61b _ he) g4
      rw [hw,e] at r
      exact Lp.next r hnx
theorem cpy_all {α:Type} (c:α→List D) (oc:α→List C) (h:∀ x,(c x).map C.d=oc x) (l:List α) (z:List C) :
    List.take 0 (List.replicate (l.map c).length z)++List.take (min (List.map (fun x=>List.map C.d x) (l.map c)).length (List.replicate (l.map c).length z).length) (List.map (fun x=>List.map C.d x) (l.map c))++List.drop (0+min (List.map (fun x=>List.map C.d x) (l.map c)).length (List.replicate (l.map c).length z).length) (List.replicate (l.map c).length z)=l.map oc:=by
  have e:List.map (fun x=>List.map C.d x) (l.map c)=l.map oc:=by
    rw [List.map_map]
    apply List.map_congr_left
    intro x _
    exact h x
  rw [e]
  simp
  exact List.take_of_length_le (by simp)
theorem allDs_rep {n:Nat} {z:List C} (h:(allD z).isSome=true):(allDs (List.replicate n z)).isSome=true:=by
  obtain ⟨ds,hd⟩:=Option.isSome_iff_exists.1 h
  have:∀ n,∃ r,allDs (List.replicate n z)=some r:=by
    intro n
    induction n with
    | zero=>exact ⟨[],rfl⟩
    | succ n ih=>obtain ⟨r,hr⟩:=ih;exact ⟨ds::r,by simp [List.replicate_succ,allDs,hd,hr]⟩
  obtain ⟨r,hr⟩:=this n
  rw [hr];rfl
theorem f38 (o:TObj) (h:objOk o):Rn pg 38 [V.d (D.agg o.c)] [[]] (V.agg [V.msl 0 14 [] 0 o.sections.l.length,V.msl 0 15 [] 0 o.symbols.l.length]) [[(14,Ob.row false 6 true (o.sections.l.map TSec.ck)),(15,Ob.row false 4 true (o.symbols.l.map TSym.oc))]]:=by
  have h1:=h.secs
  have h2:=h.syms
  have loop:=l38 o.sections.l (o.symbols.l.map TSym.oc) [[]] h1 h.data h.rels o.sections.l.length 0 (by omega) (Nat.zero_le _)
  have r:=w38_0 o (by simp [room_eq];omega) (by simp [room_eq];omega) (by simp) (by simp) (all_len (f:=TSec.c) (fun _=>rfl) _) (by simp) (allDs_rep rfl) (all_len (f:=TSym.c) (fun _=>rfl) _) (by simp) (allDs_rep rfl)
    (by
      rw [cpy_all TSec.c TSec.oc (fun _=>rfl) o.sections.l,cpy_all TSym.c TSym.oc (fun _=>rfl) o.symbols.l,←ckr_zero,ckr_len]
      exact loop) rfl
  rw [ckr_end] at r
  simp only [List.length_map] at r
  exact r
end Go.Proofs.YtgmphfmoonbfpaaMv

namespace Go.Proofs.YtgmphfmoonbfpaaMv
open Go
def sf (n:Nat) (h:Nat→TSym):List (List C):=(List.range n).map fun k=>(h k).oc
theorem sf_len (n:Nat) (h:Nat→TSym):(sf n h).length=n:=by simp [sf]
theorem sf_get {n:Nat} (h:Nat→TSym) {k:Nat} (hk:k<n):(sf n h)[k]? = some (h k).oc:=by
  simp only [sf,List.getElem?_map,List.getElem?_range hk,Option.map_some]
theorem sf_ext {n:Nat} {l:List (List C)} {h:Nat→TSym} (hl:l.length=n) (hh:∀ k,k<n→l[k]? = some (h k).oc):l=sf n h:=by
  apply List.ext_getElem?
  intro k
  by_cases hk:k<n
  · rw [hh k hk,sf_get h hk]
  · rw [List.getElem?_eq_none (by omega),List.getElem?_eq_none (by rw [sf_len];omega)]
theorem sf_set {n:Nat} (h:Nat→TSym) (e:Nat) (y:TSym) (he:e<n):setCells (sf n h) e 0 y.oc=sf n fun k=>if k=e then y else h k:=by
  have ho:overlay (h e).oc 0 y.oc=y.oc:=rfl
  refine sf_ext ?_ fun k hk=>?_
  · simp only [setCells,sf_get h he,List.length_set,sf_len]
  · simp only [setCells,sf_get h he,ho]
    by_cases hke:k=e
    · subst hke
      rw [List.getElem?_set_self (by rw [sf_len];exact hk),if_pos rfl]
    · rw [List.getElem?_set_ne (Ne.symm hke),sf_get h hk,if_neg hke]
theorem sf_cong {n:Nat} {f g:Nat→TSym} (h:∀ k,k<n→f k=g k):sf n f=sf n g:=sf_ext (sf_len n f) fun k hk=>by rw [sf_get f hk,h k hk]
def pf (n:Nat) (p:Nat→Nat):List (List C):=(List.range n).map fun k=>[C.d (D.int .i64 ((p k:Nat):Int))]
theorem pf_len (n:Nat) (p:Nat→Nat):(pf n p).length=n:=by simp [pf]
theorem pf_get {n:Nat} (p:Nat→Nat) {k:Nat} (hk:k<n):(pf n p)[k]? = some [C.d (D.int .i64 ((p k:Nat):Int))]:=by
  simp only [pf,List.getElem?_map,List.getElem?_range hk,Option.map_some]
theorem pf_set {n:Nat} (p:Nat→Nat) (e y:Nat) (he:e<n):setCells (pf n p) e 0 [C.d (D.int .i64 ((y:Nat):Int))]=pf n fun k=>if k=e then y else p k:=by
  apply List.ext_getElem?
  intro k
  by_cases hk:k<n
  · rw [pf_get _ hk]
    simp only [setCells,pf_get p he]
    by_cases hke:k=e
    · subst hke
      rw [List.getElem?_set_self (by rw [pf_len];exact hk),if_pos rfl];rfl
    · rw [List.getElem?_set_ne (Ne.symm hke),pf_get p hk,if_neg hke]
  · rw [List.getElem?_eq_none (by simp only [setCells,pf_get p he,List.length_set,pf_len];omega),List.getElem?_eq_none (by rw [pf_len];omega)]
def rnum (n:Nat) (p:Nat→Nat) (r:TRlc):TRlc:=if r.sym ≥ 0∧r.sym<((n:Nat):Int) then { r with sym:=((p r.sym.toNat:Nat):Int) } else r
def rjr (n:Nat) (p:Nat→Nat) (l:List TRlc) (j:Nat):List (List C):=(l.take j).map (fun r=>(rnum n p r).oc)++(l.drop j).map TRlc.oc
theorem rjr_len (n:Nat) (p:Nat→Nat) (l:List TRlc) (j:Nat):(rjr n p l j).length=l.length:=by simp [rjr];omega
theorem rjr_get {n:Nat} {p:Nat→Nat} {l:List TRlc} {j:Nat} {x:TRlc} (h:l[j]? = some x):(rjr n p l j)[j]? = some x.oc:=by
  have hi:=(List.getElem?_eq_some_iff.1 h).1
  have hl:((l.take j).map (fun r=>(rnum n p r).oc)).length=j:=by simp;omega
  rw [rjr,List.getElem?_append_right (by omega),hl,Nat.sub_self,List.getElem?_map,List.getElem?_drop,Nat.add_zero,h];rfl
theorem rjr_next {n:Nat} {p:Nat→Nat} {l:List TRlc} {j:Nat} {x:TRlc} (h:l[j]? = some x):(rjr n p l j).set j (rnum n p x).oc=rjr n p l (j+1):=by
  have hi:=(List.getElem?_eq_some_iff.1 h).1
  have hl:((l.take j).map (fun r=>(rnum n p r).oc)).length=j:=by simp;omega
  have hd:l.drop j=x::l.drop (j+1):=by
    rw [List.drop_eq_getElem_cons hi]
    congr 1
    exact (List.getElem?_eq_some_iff.1 h).2
  have ht:l.take (j+1)=l.take j++[x]:=by
    rw [List.take_add_one,h];rfl
  simp only [rjr,ht,hd,List.map_append,List.map_cons,List.map_nil]
  rw [List.set_append_right _ _ (by omega),hl,Nat.sub_self]
  simp
theorem rjr_zero (n:Nat) (p:Nat→Nat) (l:List TRlc):rjr n p l 0=l.map TRlc.oc:=by simp [rjr]
theorem rjr_end (n:Nat) (p:Nat→Nat) (l:List TRlc):rjr n p l l.length=l.map (fun r=>(rnum n p r).oc):=by simp [rjr]
def TSec.nm (n:Nat) (p:Nat→Nat) (x:TSec):TSec:={ x with data:=x.data.cl,relocs:=⟨x.relocs.cl.nn,x.relocs.l.map (rnum n p)⟩ }
def TSec.nk (n:Nat) (p:Nat→Nat) (x:TSec):List C:=[C.d (D.str x.name),C.d (D.int .i64 x.kind),C.d (D.int .i64 x.align),C.d (D.int .i64 x.size),C.d (D.sl x.data.cl.nn (x.data.cl.l.map u8c)),
  if x.relocs.l.isEmpty=true then C.d (D.sl x.relocs.nn []) else C.own 4 true (x.relocs.l.map fun r=>(rnum n p r).oc)]
def TSec.rk (x:TSec) (rs:List (List C)):List C:=[C.d (D.str x.name),C.d (D.int .i64 x.kind),C.d (D.int .i64 x.align),C.d (D.int .i64 x.size),C.d (D.sl x.data.cl.nn (x.data.cl.l.map u8c)),C.own 4 true rs]
def nkr (n:Nat) (p:Nat→Nat) (l:List TSec) (i:Nat):List (List C):=(l.take i).map (TSec.nk n p)++(l.drop i).map TSec.ck
theorem nkr_len (n:Nat) (p:Nat→Nat) (l:List TSec) (i:Nat):(nkr n p l i).length=l.length:=by simp [nkr];omega
theorem nkr_get {n:Nat} {p:Nat→Nat} {l:List TSec} {i:Nat} {x:TSec} (h:l[i]? = some x):(nkr n p l i)[i]? = some x.ck:=by
  have hi:=(List.getElem?_eq_some_iff.1 h).1
  have hl:((l.take i).map (TSec.nk n p)).length=i:=by simp;omega
  rw [nkr,List.getElem?_append_right (by omega),hl,Nat.sub_self,List.getElem?_map,List.getElem?_drop,Nat.add_zero,h];rfl
theorem nkr_next {n:Nat} {p:Nat→Nat} {l:List TSec} {i:Nat} {x:TSec} (h:l[i]? = some x):(nkr n p l i).set i (x.nk n p)=nkr n p l (i+1):=by
  have hi:=(List.getElem?_eq_some_iff.1 h).1
  have hl:((l.take i).map (TSec.nk n p)).length=i:=by simp;omega
  have hd:l.drop i=x::l.drop (i+1):=by
    rw [List.drop_eq_getElem_cons hi]
    congr 1
    exact (List.getElem?_eq_some_iff.1 h).2
  have ht:l.take (i+1)=l.take i++[x]:=by
    rw [List.take_add_one,h];rfl
  simp only [nkr,ht,hd,List.map_append,List.map_cons,List.map_nil]
  rw [List.set_append_right _ _ (by omega),hl,Nat.sub_self]
  simp
theorem nkr_zero (n:Nat) (p:Nat→Nat) (l:List TSec):nkr n p l 0=l.map TSec.ck:=by simp [nkr]
theorem nkr_end (n:Nat) (p:Nat→Nat) (l:List TSec):nkr n p l l.length=l.map (TSec.nk n p):=by simp [nkr]
def nir (n:Nat) (p:Nat→Nat) (l:List TSec) (i:Nat) (x:TSec) (j:Nat):List (List C):=(nkr n p l i).set i (x.rk (rjr n p x.relocs.l j))
theorem nir_len (n:Nat) (p:Nat→Nat) (l:List TSec) (i:Nat) (x:TSec) (j:Nat):(nir n p l i x j).length=l.length:=by simp [nir,nkr_len]
theorem nir_get {n:Nat} {p:Nat→Nat} {l:List TSec} {i:Nat} {x:TSec} {j:Nat} (hi:i<l.length):(nir n p l i x j)[i]? = some (x.rk (rjr n p x.relocs.l j)):=by
  rw [nir,List.getElem?_set_self (by rw [nkr_len];exact hi)]
theorem nir_zero {n:Nat} {p:Nat→Nat} {l:List TSec} {i:Nat} {x:TSec} (h:l[i]? = some x) (he:x.relocs.l.isEmpty=false):nir n p l i x 0=nkr n p l i:=by
  have hg:=nkr_get (n:=n) (p:=p) h
  have e:x.rk (rjr n p x.relocs.l 0)=x.ck:=by simp only [TSec.rk,TSec.ck,clC,he,rjr_zero,Bool.false_eq_true,if_false]
  rw [nir,e]
  apply List.ext_getElem?
  intro k
  by_cases hk:k=i
  · subst hk;rw [List.getElem?_set_self (List.getElem?_eq_some_iff.1 hg).1,hg]
  · rw [List.getElem?_set_ne (Ne.symm hk)]
theorem nir_end {n:Nat} {p:Nat→Nat} {l:List TSec} {i:Nat} {x:TSec} (h:l[i]? = some x) (he:x.relocs.l.isEmpty=false):nir n p l i x x.relocs.l.length=nkr n p l (i+1):=by
  rw [nir,←nkr_next h]
  congr 1
  simp only [TSec.rk,TSec.nk,he,rjr_end,Bool.false_eq_true,if_false]
theorem nkr_same {n:Nat} {p:Nat→Nat} {l:List TSec} {i:Nat} {x:TSec} (h:l[i]? = some x) (he:x.relocs.l.isEmpty=true):nkr n p l i=nkr n p l (i+1):=by
  have hg:=nkr_get (n:=n) (p:=p) h
  rw [←nkr_next h]
  have e:x.nk n p=x.ck:=by simp only [TSec.nk,TSec.ck,clC,he,if_true]
  rw [e]
  apply List.ext_getElem?
  intro k
  by_cases hk:k=i
  · subst hk;rw [List.getElem?_set_self (List.getElem?_eq_some_iff.1 hg).1,hg]
  · rw [List.getElem?_set_ne (Ne.symm hk)]
theorem nir_next {n:Nat} {p:Nat→Nat} {l:List TSec} {i:Nat} {x:TSec} {j:Nat} {y:TRlc} (hi:i<l.length) (hy:x.relocs.l[j]? = some y) (z:Int) (hz:(rnum n p y).oc=(({ y with sym:=z }:TRlc)).oc) :
    setCells (nir n p l i x j) i 5 [C.own 4 true (setCells (rjr n p x.relocs.l j) j 2 [C.d (D.int .i64 z)])]=nir n p l i x (j+1):=by
  have e1:setCells (rjr n p x.relocs.l j) j 2 [C.d (D.int .i64 z)]=rjr n p x.relocs.l (j+1):=by
    rw [←rjr_next hy,hz]
    simp only [setCells,rjr_get hy]
    rfl
  rw [e1]
  simp only [setCells,nir_get hi]
  simp only [nir,List.set_set]
  rfl
theorem nir_skip {n:Nat} {p:Nat→Nat} {l:List TSec} {i:Nat} {x:TSec} {j:Nat} {y:TRlc} (hy:x.relocs.l[j]? = some y) (hz:rnum n p y=y):nir n p l i x j=nir n p l i x (j+1):=by
  have e:rjr n p x.relocs.l j=rjr n p x.relocs.l (j+1):=by
    rw [←rjr_next hy,hz]
    have hg:=rjr_get (n:=n) (p:=p) hy
    apply List.ext_getElem?
    intro k
    by_cases hk:k=j
    · subst hk;rw [List.getElem?_set_self (List.getElem?_eq_some_iff.1 hg).1,hg]
    · rw [List.getElem?_set_ne (Ne.symm hk)]
  rw [nir,nir,e]
theorem fzCss_map {α:Type} (l:List α) (oc:α→List C) (c:α→List D) (h:∀ x ∈ l,fzCs (oc x)=some (c x)):fzCss (l.map oc)=some (l.map c):=by
  induction l with
  | nil=>rfl
  | cons x l ih=>
    simp only [List.map_cons,fzCss,h x List.mem_cons_self,Option.bind_some,ih fun y hy=>h y (List.mem_cons_of_mem _ hy),Option.map_some]
theorem fz_sec (n:Nat) (p:Nat→Nat) (x:TSec):fzCs (x.nk n p)=some (x.nm n p).c:=by
  have hr:fzCss (x.relocs.l.map fun r=>(rnum n p r).oc)=some ((x.relocs.l.map (rnum n p)).map TRlc.c):=by
    rw [List.map_map]
    exact fzCss_map _ _ _ fun r _=>rfl
  cases he:x.relocs.l.isEmpty with
  | true=>
    have h0:x.relocs.l=[]:=by simpa using he
    simp [TSec.nk,he,fzCs,fzC,TSec.nm,TSec.c,h0,Sl.cl]
  | false=>
    have h0:x.relocs.l≠[]:=by intro h;rw [h] at he;simp at he
    simp only [TSec.nk,he,Bool.false_eq_true,if_false,fzCs,fzC,hr,Option.bind_some,Option.map_some,TSec.nm,TSec.c,Sl.cl]
    simp
theorem fz_syms (n:Nat) (h:Nat→TSym):fzCss (sf n h)=some (((List.range n).map h).map TSym.c):=by
  have:=fzCss_map (List.range n) (fun k=>(h k).oc) (fun k=>(h k).c) fun k _=>rfl
  rw [List.map_map]
  exact this
end Go.Proofs.YtgmphfmoonbfpaaMv

set_option maxRecDepth 100000
namespace Go.Proofs.YtgmphfmoonbfpaaMv
open Go
theorem w21a_0 (b:Bool) (l:List TSym) (f:Nat→TNum) (i:Nat) (ss:List (List C)) (ys:List (List C)) (hp:HL)
    (c0:(decide (((i:Nat):Int)<((l.length:Nat):Int)))=false) :
    Ev pg i21_l0 ⟨[(2,V.ptr 0 2 [] 0 0),(3,V.ptr 0 3 [] 0 0),(4,V.msl 0 18 [] 0 l.length),(20,V.d (D.sl b (l.map TSym.c))),(21,V.d (D.int .i64 ((l.length:Nat):Int))),(22,V.d (D.int .i64 ((i:Nat):Int)))],[(2,Ob.row true 2 true [[C.d (D.sl false []),C.d (D.sl false [])]]),(3,Ob.row true 2 true [[C.own 6 true ss,C.own 4 true ys]]),(18,Ob.row false 5 true (rf l.length f))]::hp⟩ (.exit 0) ⟨[(2,V.ptr 0 2 [] 0 0),(3,V.ptr 0 3 [] 0 0),(4,V.msl 0 18 [] 0 l.length),(20,V.d (D.sl b (l.map TSym.c))),(21,V.d (D.int .i64 ((l.length:Nat):Int))),(22,V.d (D.int .i64 ((i:Nat):Int))),(23,V.d (D.bool false))],[(2,Ob.row true 2 true [[C.d (D.sl false []),C.d (D.sl false [])]]),(3,Ob.row true 2 true [[C.own 6 true ss,C.own 4 true ys]]),(18,Ob.row false 5 true (rf l.length f))]::hp⟩:=
  by
  have r:Ev pg i21_l0 ⟨[(2,V.ptr 0 2 [] 0 0),(3,V.ptr 0 3 [] 0 0),(4,V.msl 0 18 [] 0 l.length),(20,V.d (D.sl b (l.map TSym.c))),(21,V.d (D.int .i64 ((l.length:Nat):Int))),(22,V.d (D.int .i64 ((i:Nat):Int)))],[(2,Ob.row true 2 true [[C.d (D.sl false []),C.d (D.sl false [])]]),(3,Ob.row true 2 true [[C.own 6 true ss,C.own 4 true ys]]),(18,Ob.row false 5 true (rf l.length f))]::hp⟩ (.exit 0) ⟨[(2,V.ptr 0 2 [] 0 0),(3,V.ptr 0 3 [] 0 0),(4,V.msl 0 18 [] 0 l.length),(20,V.d (D.sl b (l.map TSym.c))),(21,V.d (D.int .i64 ((l.length:Nat):Int))),(22,V.d (D.int .i64 ((i:Nat):Int))),(23,V.d (D.bool (decide (((i:Nat):Int)<((l.length:Nat):Int)))))],[(2,Ob.row true 2 true [[C.d (D.sl false []),C.d (D.sl false [])]]),(3,Ob.row true 2 true [[C.own 6 true ss,C.own 4 true ys]]),(18,Ob.row false 5 true (rf l.length f))]::hp⟩:=
  codeC_ok (hs:=[.b false]) (hs':=[]) (cs:=[_]) (by kernel_rfl) ⟨c0,trivial⟩
  simp only [c0] at r
  exact r
theorem w21a_1 (b:Bool) (l:List TSym) (f:Nat→TNum) (i:Nat) (ss:List (List C)) (ys:List (List C)) (hp:HL) (x1:TSym)
    (c0:(decide (((i:Nat):Int)<((l.length:Nat):Int)))=true)
    (c1:(l.map TSym.c)[i]? = some [D.str x1.name,D.int .i64 x1.sect,D.int .i64 x1.value,D.bool x1.glob])
    (c2:i<l.length)
    (c3:(rf l.length f)[i]? = some [C.d (D.str ((f i).s.name)),C.d (D.int .i64 ((f i).s.sect)),C.d (D.int .i64 ((f i).s.value)),C.d (D.bool ((f i).s.glob)),C.d (D.int .i64 ((f i).n))]) :
    Ev pg i21_l0 ⟨[(2,V.ptr 0 2 [] 0 0),(3,V.ptr 0 3 [] 0 0),(4,V.msl 0 18 [] 0 l.length),(20,V.d (D.sl b (l.map TSym.c))),(21,V.d (D.int .i64 ((l.length:Nat):Int))),(22,V.d (D.int .i64 ((i:Nat):Int)))],[(2,Ob.row true 2 true [[C.d (D.sl false []),C.d (D.sl false [])]]),(3,Ob.row true 2 true [[C.own 6 true ss,C.own 4 true ys]]),(18,Ob.row false 5 true (rf l.length f))]::hp⟩ .normal ⟨[(2,V.ptr 0 2 [] 0 0),(3,V.ptr 0 3 [] 0 0),(4,V.msl 0 18 [] 0 l.length),(20,V.d (D.sl b (l.map TSym.c))),(21,V.d (D.int .i64 ((l.length:Nat):Int))),(22,V.d (D.int .i64 (IntKind.i64.wrap (((i:Nat):Int)+1))))],[(2,Ob.row true 2 true [[C.d (D.sl false []),C.d (D.sl false [])]]),(3,Ob.row true 2 true [[C.own 6 true ss,C.own 4 true ys]]),(18,Ob.row false 5 true (setCells (rf l.length f) i 0 [C.d (D.str x1.name),C.d (D.int .i64 x1.sect),C.d (D.int .i64 x1.value),C.d (D.bool x1.glob),C.d (D.int .i64 ((i:Nat):Int))]))]::hp⟩:=
  codeC_ok (hs:=[.b true, .n i, .ds [D.str x1.name,D.int .i64 x1.sect,D.int .i64 x1.value,D.bool x1.glob], .n i, .cs [C.d (D.str ((f i).s.name)),C.d (D.int .i64 ((f i).s.sect)),C.d (D.int .i64 ((f i).s.value)),C.d (D.bool ((f i).s.glob)),C.d (D.int .i64 ((f i).n))]]) (hs':=[]) (cs:=[_,((i:Nat):Int)=((i:Nat):Int),_,((i:Nat):Int)=((i:Nat):Int),_,_]) (by kernel_rfl) ⟨c0,rfl,c1,rfl,c2,c3,trivial⟩
theorem w21b_0 (n:Nat) (h:Nat→TSym) (g:Nat→TNum) (p:Nat→Nat) (i:Nat) (ss:List (List C)) (hp:HL)
    (c0:(decide (((i:Nat):Int)<((n:Nat):Int)))=false) :
    Ev pg i21_l2 ⟨[(2,V.ptr 0 2 [] 0 0),(3,V.ptr 0 3 [] 0 0),(7,V.msl 0 38 [] 0 n),(39,V.msl 0 18 [] 0 n),(40,V.d (D.int .i64 ((n:Nat):Int))),(41,V.d (D.int .i64 ((i:Nat):Int)))],[(2,Ob.row true 2 true [[C.d (D.sl false []),C.d (D.sl false [])]]),(3,Ob.row true 2 true [[C.own 6 true ss,C.own 4 true (sf n h)]]),(18,Ob.row false 5 true (rf n g)),(38,Ob.row false 1 true (pf n p))]::hp⟩ (.exit 2) ⟨[(2,V.ptr 0 2 [] 0 0),(3,V.ptr 0 3 [] 0 0),(7,V.msl 0 38 [] 0 n),(39,V.msl 0 18 [] 0 n),(40,V.d (D.int .i64 ((n:Nat):Int))),(41,V.d (D.int .i64 ((i:Nat):Int))),(42,V.d (D.bool false))],[(2,Ob.row true 2 true [[C.d (D.sl false []),C.d (D.sl false [])]]),(3,Ob.row true 2 true [[C.own 6 true ss,C.own 4 true (sf n h)]]),(18,Ob.row false 5 true (rf n g)),(38,Ob.row false 1 true (pf n p))]::hp⟩:=
  by
  have r:Ev pg i21_l2 ⟨[(2,V.ptr 0 2 [] 0 0),(3,V.ptr 0 3 [] 0 0),(7,V.msl 0 38 [] 0 n),(39,V.msl 0 18 [] 0 n),(40,V.d (D.int .i64 ((n:Nat):Int))),(41,V.d (D.int .i64 ((i:Nat):Int)))],[(2,Ob.row true 2 true [[C.d (D.sl false []),C.d (D.sl false [])]]),(3,Ob.row true 2 true [[C.own 6 true ss,C.own 4 true (sf n h)]]),(18,Ob.row false 5 true (rf n g)),(38,Ob.row false 1 true (pf n p))]::hp⟩ (.exit 2) ⟨[(2,V.ptr 0 2 [] 0 0),(3,V.ptr 0 3 [] 0 0),(7,V.msl 0 38 [] 0 n),(39,V.msl 0 18 [] 0 n),(40,V.d (D.int .i64 ((n:Nat):Int))),(41,V.d (D.int .i64 ((i:Nat):Int))),(42,V.d (D.bool (decide (((i:Nat):Int)<((n:Nat):Int)))))],[(2,Ob.row true 2 true [[C.d (D.sl false []),C.d (D.sl false [])]]),(3,Ob.row true 2 true [[C.own 6 true ss,C.own 4 true (sf n h)]]),(18,Ob.row false 5 true (rf n g)),(38,Ob.row false 1 true (pf n p))]::hp⟩:=
  codeC_ok (hs:=[.b false]) (hs':=[]) (cs:=[_]) (by kernel_rfl) ⟨c0,trivial⟩
  simp only [c0] at r
  exact r
theorem w21b_1 (n:Nat) (h:Nat→TSym) (g:Nat→TNum) (p:Nat→Nat) (i:Nat) (ss:List (List C)) (hp:HL) (k1:Nat)
    (c0:(decide (((i:Nat):Int)<((n:Nat):Int)))=true)
    (c1:i<n)
    (c2:(rf n g)[i]? = some [C.d (D.str ((g i).s.name)),C.d (D.int .i64 ((g i).s.sect)),C.d (D.int .i64 ((g i).s.value)),C.d (D.bool ((g i).s.glob)),C.d (D.int .i64 ((g i).n))])
    (c3:i<((sf n h).length))
    (c4:(sf n h)[i]? = some [C.d (D.str ((h i).name)),C.d (D.int .i64 ((h i).sect)),C.d (D.int .i64 ((h i).value)),C.d (D.bool ((h i).glob))])
    (c5:((g i).n)=((k1:Nat):Int))
    (c6:k1<n)
    (c7:(pf n p)[k1]? = some [C.d (D.int .i64 ((p k1:Nat):Int))]) :
    Ev pg i21_l2 ⟨[(2,V.ptr 0 2 [] 0 0),(3,V.ptr 0 3 [] 0 0),(7,V.msl 0 38 [] 0 n),(39,V.msl 0 18 [] 0 n),(40,V.d (D.int .i64 ((n:Nat):Int))),(41,V.d (D.int .i64 ((i:Nat):Int)))],[(2,Ob.row true 2 true [[C.d (D.sl false []),C.d (D.sl false [])]]),(3,Ob.row true 2 true [[C.own 6 true ss,C.own 4 true (sf n h)]]),(18,Ob.row false 5 true (rf n g)),(38,Ob.row false 1 true (pf n p))]::hp⟩ .normal ⟨[(2,V.ptr 0 2 [] 0 0),(3,V.ptr 0 3 [] 0 0),(7,V.msl 0 38 [] 0 n),(39,V.msl 0 18 [] 0 n),(40,V.d (D.int .i64 ((n:Nat):Int))),(41,V.d (D.int .i64 (IntKind.i64.wrap (((i:Nat):Int)+1))))],[(2,Ob.row true 2 true [[C.d (D.sl false []),C.d (D.sl false [])]]),(3,Ob.row true 2 true [[C.own 6 true ss,C.own 4 true (setCells (sf n h) i 0 [C.d (D.str ((g i).s.name)),C.d (D.int .i64 ((g i).s.sect)),C.d (D.int .i64 ((g i).s.value)),C.d (D.bool ((g i).s.glob))])]]),(18,Ob.row false 5 true (rf n g)),(38,Ob.row false 1 true (setCells (pf n p) k1 0 [C.d (D.int .i64 ((i:Nat):Int))]))]::hp⟩:=
  codeC_ok (hs:=[.b true, .n i, .cs [C.d (D.str ((g i).s.name)),C.d (D.int .i64 ((g i).s.sect)),C.d (D.int .i64 ((g i).s.value)),C.d (D.bool ((g i).s.glob)),C.d (D.int .i64 ((g i).n))], .n i, .cs [C.d (D.str ((h i).name)),C.d (D.int .i64 ((h i).sect)),C.d (D.int .i64 ((h i).value)),C.d (D.bool ((h i).glob))], .n k1, .cs [C.d (D.int .i64 ((p k1:Nat):Int))]]) (hs':=[]) (cs:=[_,((i:Nat):Int)=((i:Nat):Int),_,_,((i:Nat):Int)=((i:Nat):Int),_,_,_,_,_]) (by kernel_rfl) ⟨c0,rfl,c1,c2,rfl,c3,c4,c5,c6,c7,trivial⟩
theorem w21c_0 (n:Nat) (p:Nat→Nat) (l:List TSec) (i:Nat) (ys:List (List C)) (hp:HL)
    (c0:(decide (((i:Nat):Int)<((l.length:Nat):Int)))=false) :
    Ev pg i21_l4 ⟨[(2,V.ptr 0 2 [] 0 0),(3,V.ptr 0 3 [] 0 0),(7,V.msl 0 38 [] 0 n),(60,V.d (D.int .i64 ((l.length:Nat):Int))),(61,V.d (D.int .i64 ((i:Nat):Int)))],[(2,Ob.row true 2 true [[C.d (D.sl false []),C.d (D.sl false [])]]),(3,Ob.row true 2 true [[C.own 6 true (nkr n p l i),C.own 4 true ys]]),(38,Ob.row false 1 true (pf n p))]::hp⟩ (.exit 4) ⟨[(2,V.ptr 0 2 [] 0 0),(3,V.ptr 0 3 [] 0 0),(7,V.msl 0 38 [] 0 n),(60,V.d (D.int .i64 ((l.length:Nat):Int))),(61,V.d (D.int .i64 ((i:Nat):Int))),(62,V.d (D.bool false))],[(2,Ob.row true 2 true [[C.d (D.sl false []),C.d (D.sl false [])]]),(3,Ob.row true 2 true [[C.own 6 true (nkr n p l i),C.own 4 true ys]]),(38,Ob.row false 1 true (pf n p))]::hp⟩:=
  by
  have r:Ev pg i21_l4 ⟨[(2,V.ptr 0 2 [] 0 0),(3,V.ptr 0 3 [] 0 0),(7,V.msl 0 38 [] 0 n),(60,V.d (D.int .i64 ((l.length:Nat):Int))),(61,V.d (D.int .i64 ((i:Nat):Int)))],[(2,Ob.row true 2 true [[C.d (D.sl false []),C.d (D.sl false [])]]),(3,Ob.row true 2 true [[C.own 6 true (nkr n p l i),C.own 4 true ys]]),(38,Ob.row false 1 true (pf n p))]::hp⟩ (.exit 4) ⟨[(2,V.ptr 0 2 [] 0 0),(3,V.ptr 0 3 [] 0 0),(7,V.msl 0 38 [] 0 n),(60,V.d (D.int .i64 ((l.length:Nat):Int))),(61,V.d (D.int .i64 ((i:Nat):Int))),(62,V.d (D.bool (decide (((i:Nat):Int)<((l.length:Nat):Int)))))],[(2,Ob.row true 2 true [[C.d (D.sl false []),C.d (D.sl false [])]]),(3,Ob.row true 2 true [[C.own 6 true (nkr n p l i),C.own 4 true ys]]),(38,Ob.row false 1 true (pf n p))]::hp⟩:=
  codeC_ok (hs:=[.b false]) (hs':=[]) (cs:=[_]) (by kernel_rfl) ⟨c0,trivial⟩
  simp only [c0] at r
  exact r
theorem w21c_1 (n:Nat) (p:Nat→Nat) (l:List TSec) (i:Nat) (ys:List (List C)) (hp:HL) (x1:TSec)
    (c0:(decide (((i:Nat):Int)<((l.length:Nat):Int)))=true)
    (c1:i<((nkr n p l i).length))
    (c2:cellAt (nkr n p l i) i 5=some (C.own 4 true (x1.relocs.l.map TRlc.oc)))
    (c3:Lp pg i21_l6 ⟨[(2,V.ptr 0 2 [] 0 0),(3,V.ptr 0 3 [] 0 0),(7,V.msl 0 38 [] 0 n),(10,V.d (D.int .i64 ((i:Nat):Int))),(60,V.d (D.int .i64 ((l.length:Nat):Int))),(61,V.d (D.int .i64 ((i:Nat):Int))),(70,V.d (D.int .i64 (((x1.relocs.l.map TRlc.oc).length:Nat):Int))),(71,V.d (D.int .i64 0))],[(2,Ob.row true 2 true [[C.d (D.sl false []),C.d (D.sl false [])]]),(3,Ob.row true 2 true [[C.own 6 true (nkr n p l i),C.own 4 true ys]]),(38,Ob.row false 1 true (pf n p))]::hp⟩ (.exit 6) ⟨[(2,V.ptr 0 2 [] 0 0),(3,V.ptr 0 3 [] 0 0),(7,V.msl 0 38 [] 0 n),(10,V.d (D.int .i64 ((i:Nat):Int))),(60,V.d (D.int .i64 ((l.length:Nat):Int))),(61,V.d (D.int .i64 ((i:Nat):Int))),(70,V.d (D.int .i64 (((x1.relocs.l.map TRlc.oc).length:Nat):Int))),(71,V.d (D.int .i64 (((x1.relocs.l.map TRlc.oc).length:Nat):Int))),(72,V.d (D.bool false))],[(2,Ob.row true 2 true [[C.d (D.sl false []),C.d (D.sl false [])]]),(3,Ob.row true 2 true [[C.own 6 true (nir n p l i x1 x1.relocs.l.length),C.own 4 true ys]]),(38,Ob.row false 1 true (pf n p))]::hp⟩) :
    Ev pg i21_l4 ⟨[(2,V.ptr 0 2 [] 0 0),(3,V.ptr 0 3 [] 0 0),(7,V.msl 0 38 [] 0 n),(60,V.d (D.int .i64 ((l.length:Nat):Int))),(61,V.d (D.int .i64 ((i:Nat):Int)))],[(2,Ob.row true 2 true [[C.d (D.sl false []),C.d (D.sl false [])]]),(3,Ob.row true 2 true [[C.own 6 true (nkr n p l i),C.own 4 true ys]]),(38,Ob.row false 1 true (pf n p))]::hp⟩ .normal ⟨[(2,V.ptr 0 2 [] 0 0),(3,V.ptr 0 3 [] 0 0),(7,V.msl 0 38 [] 0 n),(60,V.d (D.int .i64 ((l.length:Nat):Int))),(61,V.d (D.int .i64 (IntKind.i64.wrap (((i:Nat):Int)+1))))],[(2,Ob.row true 2 true [[C.d (D.sl false []),C.d (D.sl false [])]]),(3,Ob.row true 2 true [[C.own 6 true (nir n p l i x1 x1.relocs.l.length),C.own 4 true ys]]),(38,Ob.row false 1 true (pf n p))]::hp⟩:=
  codeC_ok (hs:=[.b true, .n i, .c (C.own 4 true (x1.relocs.l.map TRlc.oc)), .lp (.exit 6) ⟨[(2,V.ptr 0 2 [] 0 0),(3,V.ptr 0 3 [] 0 0),(7,V.msl 0 38 [] 0 n),(10,V.d (D.int .i64 ((i:Nat):Int))),(60,V.d (D.int .i64 ((l.length:Nat):Int))),(61,V.d (D.int .i64 ((i:Nat):Int))),(70,V.d (D.int .i64 (((x1.relocs.l.map TRlc.oc).length:Nat):Int))),(71,V.d (D.int .i64 (((x1.relocs.l.map TRlc.oc).length:Nat):Int))),(72,V.d (D.bool false))],[(2,Ob.row true 2 true [[C.d (D.sl false []),C.d (D.sl false [])]]),(3,Ob.row true 2 true [[C.own 6 true (nir n p l i x1 x1.relocs.l.length),C.own 4 true ys]]),(38,Ob.row false 1 true (pf n p))]::hp⟩]) (hs':=[]) (cs:=[_,((i:Nat):Int)=((i:Nat):Int),_,_,_]) (by kernel_rfl) ⟨c0,rfl,c1,c2,c3,trivial⟩
theorem w21c_2 (n:Nat) (p:Nat→Nat) (l:List TSec) (i:Nat) (ys:List (List C)) (hp:HL) (x1:TSec)
    (c0:(decide (((i:Nat):Int)<((l.length:Nat):Int)))=true)
    (c1:i<((nkr n p l i).length))
    (c2:cellAt (nkr n p l i) i 5=some (C.d (D.sl x1.relocs.nn [])))
    (c3:Lp pg i21_l6 ⟨[(2,V.ptr 0 2 [] 0 0),(3,V.ptr 0 3 [] 0 0),(7,V.msl 0 38 [] 0 n),(10,V.d (D.int .i64 ((i:Nat):Int))),(60,V.d (D.int .i64 ((l.length:Nat):Int))),(61,V.d (D.int .i64 ((i:Nat):Int))),(70,V.d (D.int .i64 0)),(71,V.d (D.int .i64 0))],[(2,Ob.row true 2 true [[C.d (D.sl false []),C.d (D.sl false [])]]),(3,Ob.row true 2 true [[C.own 6 true (nkr n p l i),C.own 4 true ys]]),(38,Ob.row false 1 true (pf n p))]::hp⟩ (.exit 6) ⟨[(2,V.ptr 0 2 [] 0 0),(3,V.ptr 0 3 [] 0 0),(7,V.msl 0 38 [] 0 n),(10,V.d (D.int .i64 ((i:Nat):Int))),(60,V.d (D.int .i64 ((l.length:Nat):Int))),(61,V.d (D.int .i64 ((i:Nat):Int))),(70,V.d (D.int .i64 0)),(71,V.d (D.int .i64 0)),(72,V.d (D.bool false))],[(2,Ob.row true 2 true [[C.d (D.sl false []),C.d (D.sl false [])]]),(3,Ob.row true 2 true [[C.own 6 true (nkr n p l i),C.own 4 true ys]]),(38,Ob.row false 1 true (pf n p))]::hp⟩) :
    Ev pg i21_l4 ⟨[(2,V.ptr 0 2 [] 0 0),(3,V.ptr 0 3 [] 0 0),(7,V.msl 0 38 [] 0 n),(60,V.d (D.int .i64 ((l.length:Nat):Int))),(61,V.d (D.int .i64 ((i:Nat):Int)))],[(2,Ob.row true 2 true [[C.d (D.sl false []),C.d (D.sl false [])]]),(3,Ob.row true 2 true [[C.own 6 true (nkr n p l i),C.own 4 true ys]]),(38,Ob.row false 1 true (pf n p))]::hp⟩ .normal ⟨[(2,V.ptr 0 2 [] 0 0),(3,V.ptr 0 3 [] 0 0),(7,V.msl 0 38 [] 0 n),(60,V.d (D.int .i64 ((l.length:Nat):Int))),(61,V.d (D.int .i64 (IntKind.i64.wrap (((i:Nat):Int)+1))))],[(2,Ob.row true 2 true [[C.d (D.sl false []),C.d (D.sl false [])]]),(3,Ob.row true 2 true [[C.own 6 true (nkr n p l i),C.own 4 true ys]]),(38,Ob.row false 1 true (pf n p))]::hp⟩:=
  codeC_ok (hs:=[.b true, .n i, .c (C.d (D.sl x1.relocs.nn [])), .lp (.exit 6) ⟨[(2,V.ptr 0 2 [] 0 0),(3,V.ptr 0 3 [] 0 0),(7,V.msl 0 38 [] 0 n),(10,V.d (D.int .i64 ((i:Nat):Int))),(60,V.d (D.int .i64 ((l.length:Nat):Int))),(61,V.d (D.int .i64 ((i:Nat):Int))),(70,V.d (D.int .i64 0)),(71,V.d (D.int .i64 0)),(72,V.d (D.bool false))],[(2,Ob.row true 2 true [[C.d (D.sl false []),C.d (D.sl false [])]]),(3,Ob.row true 2 true [[C.own 6 true (nkr n p l i),C.own 4 true ys]]),(38,Ob.row false 1 true (pf n p))]::hp⟩]) (hs':=[]) (cs:=[_,((i:Nat):Int)=((i:Nat):Int),_,_,_]) (by kernel_rfl) ⟨c0,rfl,c1,c2,c3,trivial⟩
theorem w21d_0 (n:Nat) (p:Nat→Nat) (l:List TSec) (i:Nat) (ys:List (List C)) (x:TSec) (m:Nat) (j:Nat) (hp:HL)
    (c0:(decide (((j:Nat):Int)<((m:Nat):Int)))=false) :
    Ev pg i21_l6 ⟨[(2,V.ptr 0 2 [] 0 0),(3,V.ptr 0 3 [] 0 0),(7,V.msl 0 38 [] 0 n),(10,V.d (D.int .i64 ((i:Nat):Int))),(60,V.d (D.int .i64 ((l.length:Nat):Int))),(61,V.d (D.int .i64 ((i:Nat):Int))),(70,V.d (D.int .i64 ((m:Nat):Int))),(71,V.d (D.int .i64 ((j:Nat):Int)))],[(2,Ob.row true 2 true [[C.d (D.sl false []),C.d (D.sl false [])]]),(3,Ob.row true 2 true [[C.own 6 true (nir n p l i x j),C.own 4 true ys]]),(38,Ob.row false 1 true (pf n p))]::hp⟩ (.exit 6) ⟨[(2,V.ptr 0 2 [] 0 0),(3,V.ptr 0 3 [] 0 0),(7,V.msl 0 38 [] 0 n),(10,V.d (D.int .i64 ((i:Nat):Int))),(60,V.d (D.int .i64 ((l.length:Nat):Int))),(61,V.d (D.int .i64 ((i:Nat):Int))),(70,V.d (D.int .i64 ((m:Nat):Int))),(71,V.d (D.int .i64 ((j:Nat):Int))),(72,V.d (D.bool false))],[(2,Ob.row true 2 true [[C.d (D.sl false []),C.d (D.sl false [])]]),(3,Ob.row true 2 true [[C.own 6 true (nir n p l i x j),C.own 4 true ys]]),(38,Ob.row false 1 true (pf n p))]::hp⟩:=
  by
  have r:Ev pg i21_l6 ⟨[(2,V.ptr 0 2 [] 0 0),(3,V.ptr 0 3 [] 0 0),(7,V.msl 0 38 [] 0 n),(10,V.d (D.int .i64 ((i:Nat):Int))),(60,V.d (D.int .i64 ((l.length:Nat):Int))),(61,V.d (D.int .i64 ((i:Nat):Int))),(70,V.d (D.int .i64 ((m:Nat):Int))),(71,V.d (D.int .i64 ((j:Nat):Int)))],[(2,Ob.row true 2 true [[C.d (D.sl false []),C.d (D.sl false [])]]),(3,Ob.row true 2 true [[C.own 6 true (nir n p l i x j),C.own 4 true ys]]),(38,Ob.row false 1 true (pf n p))]::hp⟩ (.exit 6) ⟨[(2,V.ptr 0 2 [] 0 0),(3,V.ptr 0 3 [] 0 0),(7,V.msl 0 38 [] 0 n),(10,V.d (D.int .i64 ((i:Nat):Int))),(60,V.d (D.int .i64 ((l.length:Nat):Int))),(61,V.d (D.int .i64 ((i:Nat):Int))),(70,V.d (D.int .i64 ((m:Nat):Int))),(71,V.d (D.int .i64 ((j:Nat):Int))),(72,V.d (D.bool (decide (((j:Nat):Int)<((m:Nat):Int)))))],[(2,Ob.row true 2 true [[C.d (D.sl false []),C.d (D.sl false [])]]),(3,Ob.row true 2 true [[C.own 6 true (nir n p l i x j),C.own 4 true ys]]),(38,Ob.row false 1 true (pf n p))]::hp⟩:=
  codeC_ok (hs:=[.b false]) (hs':=[]) (cs:=[_]) (by kernel_rfl) ⟨c0,trivial⟩
  simp only [c0] at r
  exact r
theorem w21d_1 (n:Nat) (p:Nat→Nat) (l:List TSec) (i:Nat) (ys:List (List C)) (x:TSec) (m:Nat) (j:Nat) (hp:HL) (y1:TRlc)
    (c0:(decide (((j:Nat):Int)<((m:Nat):Int)))=true)
    (c1:i<((nir n p l i x j).length))
    (c2:cellAt (nir n p l i x j) i 5=some (C.own 4 true (rjr n p x.relocs.l j)))
    (c3:j<((rjr n p x.relocs.l j).length))
    (c4:cellAt (rjr n p x.relocs.l j) j 2=some (C.d (D.int .i64 y1.sym)))
    (c5:(decide (y1.sym ≥ 0))=false) :
    Ev pg i21_l6 ⟨[(2,V.ptr 0 2 [] 0 0),(3,V.ptr 0 3 [] 0 0),(7,V.msl 0 38 [] 0 n),(10,V.d (D.int .i64 ((i:Nat):Int))),(60,V.d (D.int .i64 ((l.length:Nat):Int))),(61,V.d (D.int .i64 ((i:Nat):Int))),(70,V.d (D.int .i64 ((m:Nat):Int))),(71,V.d (D.int .i64 ((j:Nat):Int)))],[(2,Ob.row true 2 true [[C.d (D.sl false []),C.d (D.sl false [])]]),(3,Ob.row true 2 true [[C.own 6 true (nir n p l i x j),C.own 4 true ys]]),(38,Ob.row false 1 true (pf n p))]::hp⟩ .normal ⟨[(2,V.ptr 0 2 [] 0 0),(3,V.ptr 0 3 [] 0 0),(7,V.msl 0 38 [] 0 n),(10,V.d (D.int .i64 ((i:Nat):Int))),(60,V.d (D.int .i64 ((l.length:Nat):Int))),(61,V.d (D.int .i64 ((i:Nat):Int))),(70,V.d (D.int .i64 ((m:Nat):Int))),(71,V.d (D.int .i64 (IntKind.i64.wrap (((j:Nat):Int)+1))))],[(2,Ob.row true 2 true [[C.d (D.sl false []),C.d (D.sl false [])]]),(3,Ob.row true 2 true [[C.own 6 true (nir n p l i x j),C.own 4 true ys]]),(38,Ob.row false 1 true (pf n p))]::hp⟩:=
  codeC_ok (hs:=[.b true, .n i, .c (C.own 4 true (rjr n p x.relocs.l j)), .n j, .rz 4 true (rjr n p x.relocs.l j), .rz 4 true (rjr n p x.relocs.l j), .c (C.d (D.int .i64 y1.sym)), .b false, .b false, .b false, .b false, .b false, .b false, .b false, .b false, .b false]) (hs':=[]) (cs:=[_,((i:Nat):Int)=((i:Nat):Int),_,_,((j:Nat):Int)=((j:Nat):Int),_,_,_,_,_,_,_,_,_,_,_,_,false=false]) (by kernel_rfl) ⟨c0,rfl,c1,c2,rfl,c3,c2,c2,c4,c5,c5,c5,c5,c5,c5,c5,c5,rfl,trivial⟩
theorem w21d_2 (n:Nat) (p:Nat→Nat) (l:List TSec) (i:Nat) (ys:List (List C)) (x:TSec) (m:Nat) (j:Nat) (hp:HL) (y1:TRlc)
    (c0:(decide (((j:Nat):Int)<((m:Nat):Int)))=true)
    (c1:i<((nir n p l i x j).length))
    (c2:cellAt (nir n p l i x j) i 5=some (C.own 4 true (rjr n p x.relocs.l j)))
    (c3:j<((rjr n p x.relocs.l j).length))
    (c4:cellAt (rjr n p x.relocs.l j) j 2=some (C.d (D.int .i64 y1.sym)))
    (c5:(decide (y1.sym ≥ 0))=true)
    (c6:(decide (y1.sym<((n:Nat):Int)))=false) :
    Ev pg i21_l6 ⟨[(2,V.ptr 0 2 [] 0 0),(3,V.ptr 0 3 [] 0 0),(7,V.msl 0 38 [] 0 n),(10,V.d (D.int .i64 ((i:Nat):Int))),(60,V.d (D.int .i64 ((l.length:Nat):Int))),(61,V.d (D.int .i64 ((i:Nat):Int))),(70,V.d (D.int .i64 ((m:Nat):Int))),(71,V.d (D.int .i64 ((j:Nat):Int)))],[(2,Ob.row true 2 true [[C.d (D.sl false []),C.d (D.sl false [])]]),(3,Ob.row true 2 true [[C.own 6 true (nir n p l i x j),C.own 4 true ys]]),(38,Ob.row false 1 true (pf n p))]::hp⟩ .normal ⟨[(2,V.ptr 0 2 [] 0 0),(3,V.ptr 0 3 [] 0 0),(7,V.msl 0 38 [] 0 n),(10,V.d (D.int .i64 ((i:Nat):Int))),(60,V.d (D.int .i64 ((l.length:Nat):Int))),(61,V.d (D.int .i64 ((i:Nat):Int))),(70,V.d (D.int .i64 ((m:Nat):Int))),(71,V.d (D.int .i64 (IntKind.i64.wrap (((j:Nat):Int)+1))))],[(2,Ob.row true 2 true [[C.d (D.sl false []),C.d (D.sl false [])]]),(3,Ob.row true 2 true [[C.own 6 true (nir n p l i x j),C.own 4 true ys]]),(38,Ob.row false 1 true (pf n p))]::hp⟩:=
  codeC_ok (hs:=[.b true, .n i, .c (C.own 4 true (rjr n p x.relocs.l j)), .n j, .rz 4 true (rjr n p x.relocs.l j), .rz 4 true (rjr n p x.relocs.l j), .c (C.d (D.int .i64 y1.sym)), .b true, .b true, .b true, .b true, .rz 4 true (rjr n p x.relocs.l j), .c (C.d (D.int .i64 y1.sym)), .b true, .b true, .b true, .b true, .b false]) (hs':=[]) (cs:=[_,((i:Nat):Int)=((i:Nat):Int),_,_,((j:Nat):Int)=((j:Nat):Int),_,_,_,_,_,_,_,_,_,_,_,_,_,_,_]) (by kernel_rfl) ⟨c0,rfl,c1,c2,rfl,c3,c2,c2,c4,c5,c5,c5,c5,c2,c4,c5,c5,c5,c5,c6,trivial⟩
theorem w21d_3 (n:Nat) (p:Nat→Nat) (l:List TSec) (i:Nat) (ys:List (List C)) (x:TSec) (m:Nat) (j:Nat) (hp:HL) (y1:TRlc) (k2:Nat)
    (c0:(decide (((j:Nat):Int)<((m:Nat):Int)))=true)
    (c1:i<((nir n p l i x j).length))
    (c2:cellAt (nir n p l i x j) i 5=some (C.own 4 true (rjr n p x.relocs.l j)))
    (c3:j<((rjr n p x.relocs.l j).length))
    (c4:cellAt (rjr n p x.relocs.l j) j 2=some (C.d (D.int .i64 y1.sym)))
    (c5:(decide (y1.sym ≥ 0))=true)
    (c6:(decide (y1.sym<((n:Nat):Int)))=true)
    (c7:y1.sym=((k2:Nat):Int))
    (c8:k2<n)
    (c9:cellAt (pf n p) k2 0=some (C.d (D.int .i64 ((p k2:Nat):Int))))
    (c10:(rjr n p x.relocs.l j)[j]? = some [C.d (D.int .i64 y1.off),C.d (D.int .i64 y1.typ),C.d (D.int .i64 y1.sym),C.d (D.int .i64 y1.addend)]) :
    Ev pg i21_l6 ⟨[(2,V.ptr 0 2 [] 0 0),(3,V.ptr 0 3 [] 0 0),(7,V.msl 0 38 [] 0 n),(10,V.d (D.int .i64 ((i:Nat):Int))),(60,V.d (D.int .i64 ((l.length:Nat):Int))),(61,V.d (D.int .i64 ((i:Nat):Int))),(70,V.d (D.int .i64 ((m:Nat):Int))),(71,V.d (D.int .i64 ((j:Nat):Int)))],[(2,Ob.row true 2 true [[C.d (D.sl false []),C.d (D.sl false [])]]),(3,Ob.row true 2 true [[C.own 6 true (nir n p l i x j),C.own 4 true ys]]),(38,Ob.row false 1 true (pf n p))]::hp⟩ .normal ⟨[(2,V.ptr 0 2 [] 0 0),(3,V.ptr 0 3 [] 0 0),(7,V.msl 0 38 [] 0 n),(10,V.d (D.int .i64 ((i:Nat):Int))),(60,V.d (D.int .i64 ((l.length:Nat):Int))),(61,V.d (D.int .i64 ((i:Nat):Int))),(70,V.d (D.int .i64 ((m:Nat):Int))),(71,V.d (D.int .i64 (IntKind.i64.wrap (((j:Nat):Int)+1))))],[(2,Ob.row true 2 true [[C.d (D.sl false []),C.d (D.sl false [])]]),(3,Ob.row true 2 true [[C.own 6 true (setCells (nir n p l i x j) i 5 [C.own 4 true (setCells (rjr n p x.relocs.l j) j 2 [C.d (D.int .i64 ((p k2:Nat):Int))])]),C.own 4 true ys]]),(38,Ob.row false 1 true (pf n p))]::hp⟩:=
  codeC_ok (hs:=[.b true, .n i, .c (C.own 4 true (rjr n p x.relocs.l j)), .n j, .rz 4 true (rjr n p x.relocs.l j), .rz 4 true (rjr n p x.relocs.l j), .c (C.d (D.int .i64 y1.sym)), .b true, .b true, .b true, .b true, .rz 4 true (rjr n p x.relocs.l j), .c (C.d (D.int .i64 y1.sym)), .b true, .b true, .b true, .b true, .b true, .rz 4 true (rjr n p x.relocs.l j), .c (C.d (D.int .i64 y1.sym)), .n k2, .c (C.d (D.int .i64 ((p k2:Nat):Int))), .rz 4 true (rjr n p x.relocs.l j), .cs [C.d (D.int .i64 y1.off),C.d (D.int .i64 y1.typ),C.d (D.int .i64 y1.sym),C.d (D.int .i64 y1.addend)]]) (hs':=[]) (cs:=[_,((i:Nat):Int)=((i:Nat):Int),_,_,((j:Nat):Int)=((j:Nat):Int),_,_,_,_,_,_,_,_,_,_,_,_,_,_,_,_,_,_,_,_,_,_]) (by kernel_rfl) ⟨c0,rfl,c1,c2,rfl,c3,c2,c2,c4,c5,c5,c5,c5,c2,c4,c5,c5,c5,c5,c6,c2,c4,c7,c8,c9,c2,c10,trivial⟩
theorem w21e_0 (n:Nat) (p:Nat→Nat) (l:List TSec) (i:Nat) (ys:List (List C)) (hp:HL)
     :
    Ev pg i21_l6 ⟨[(2,V.ptr 0 2 [] 0 0),(3,V.ptr 0 3 [] 0 0),(7,V.msl 0 38 [] 0 n),(10,V.d (D.int .i64 ((i:Nat):Int))),(60,V.d (D.int .i64 ((l.length:Nat):Int))),(61,V.d (D.int .i64 ((i:Nat):Int))),(70,V.d (D.int .i64 0)),(71,V.d (D.int .i64 0))],[(2,Ob.row true 2 true [[C.d (D.sl false []),C.d (D.sl false [])]]),(3,Ob.row true 2 true [[C.own 6 true (nkr n p l i),C.own 4 true ys]]),(38,Ob.row false 1 true (pf n p))]::hp⟩ (.exit 6) ⟨[(2,V.ptr 0 2 [] 0 0),(3,V.ptr 0 3 [] 0 0),(7,V.msl 0 38 [] 0 n),(10,V.d (D.int .i64 ((i:Nat):Int))),(60,V.d (D.int .i64 ((l.length:Nat):Int))),(61,V.d (D.int .i64 ((i:Nat):Int))),(70,V.d (D.int .i64 0)),(71,V.d (D.int .i64 0)),(72,V.d (D.bool false))],[(2,Ob.row true 2 true [[C.d (D.sl false []),C.d (D.sl false [])]]),(3,Ob.row true 2 true [[C.own 6 true (nkr n p l i),C.own 4 true ys]]),(38,Ob.row false 1 true (pf n p))]::hp⟩:=
  codeC_ok (hs:=[.b false]) (hs':=[]) (cs:=[false=false]) (by kernel_rfl) ⟨rfl,trivial⟩
theorem w21_0 (o:TObj) (f:Nat→TNum) (g:Nat→TNum) (h:Nat→TSym) (p:Nat→Nat) (hp:HL)
 (c0:Rn pg 38 [V.d (D.agg [D.sl o.sections.nn (o.sections.l.map TSec.c),D.sl o.symbols.nn (o.symbols.l.map TSym.c)])] [[]] (V.agg [V.msl 0 14 [] 0 o.sections.l.length,V.msl 0 15 [] 0 o.symbols.l.length]) [[(14,Ob.row false 6 true (o.sections.l.map TSec.ck)),(15,Ob.row false 4 true (o.symbols.l.map TSym.oc))]])
 (c1:(o.sections.l.map TSec.ck).length=o.sections.l.length)
 (c2:(o.symbols.l.map TSym.oc).length=o.symbols.l.length)
 (c3:48 * ((o.symbols.l.map TSym.c).length)≤room)
 (c4:Lp pg i21_l0 ⟨[(2,V.ptr 0 2 [] 0 0),(3,V.ptr 0 3 [] 0 0),(4,V.msl 0 18 [] 0 ((o.symbols.l.map TSym.c).length)),(20,V.d (D.sl o.symbols.nn (o.symbols.l.map TSym.c))),(21,V.d (D.int .i64 (((o.symbols.l.map TSym.c).length:Nat):Int))),(22,V.d (D.int .i64 0))],[(2,Ob.row true 2 true [[C.d (D.sl false []),C.d (D.sl false [])]]),(3,Ob.row true 2 true [[C.own 6 true (o.sections.l.map TSec.ck),C.own 4 true (o.symbols.l.map TSym.oc)]]),(18,Ob.row false 5 true (List.replicate ((o.symbols.l.map TSym.c).length) [C.d (D.str ([])),C.d (D.int .i64 0),C.d (D.int .i64 0),C.d (D.bool false),C.d (D.int .i64 0)]))]::hp⟩ (.exit 0) ⟨[(2,V.ptr 0 2 [] 0 0),(3,V.ptr 0 3 [] 0 0),(4,V.msl 0 18 [] 0 ((o.symbols.l.map TSym.c).length)),(20,V.d (D.sl o.symbols.nn (o.symbols.l.map TSym.c))),(21,V.d (D.int .i64 (((o.symbols.l.map TSym.c).length:Nat):Int))),(22,V.d (D.int .i64 (((o.symbols.l.map TSym.c).length:Nat):Int))),(23,V.d (D.bool false))],[(2,Ob.row true 2 true [[C.d (D.sl false []),C.d (D.sl false [])]]),(3,Ob.row true 2 true [[C.own 6 true (o.sections.l.map TSec.ck),C.own 4 true (o.symbols.l.map TSym.oc)]]),(18,Ob.row false 5 true (rf o.symbols.l.length f))]::hp⟩)
 (c5:Rn pg 39 [V.msl 0 18 [] 0 ((o.symbols.l.map TSym.c).length),V.fn 40 []] [[(18,Ob.row false 5 true (rf o.symbols.l.length f))]] (V.tup []) [[(18,Ob.row false 5 true (rf o.symbols.l.length g))]])
 (c6:8 * ((o.symbols.l.map TSym.c).length)≤room)
 (c7:Lp pg i21_l2 ⟨[(2,V.ptr 0 2 [] 0 0),(3,V.ptr 0 3 [] 0 0),(7,V.msl 0 38 [] 0 ((o.symbols.l.map TSym.c).length)),(39,V.msl 0 18 [] 0 ((o.symbols.l.map TSym.c).length)),(40,V.d (D.int .i64 (((o.symbols.l.map TSym.c).length:Nat):Int))),(41,V.d (D.int .i64 0))],[(2,Ob.row true 2 true [[C.d (D.sl false []),C.d (D.sl false [])]]),(3,Ob.row true 2 true [[C.own 6 true (o.sections.l.map TSec.ck),C.own 4 true (o.symbols.l.map TSym.oc)]]),(18,Ob.row false 5 true (rf o.symbols.l.length g)),(38,Ob.row false 1 true (List.replicate ((o.symbols.l.map TSym.c).length) [C.d (D.int .i64 0)]))]::hp⟩ (.exit 2) ⟨[(2,V.ptr 0 2 [] 0 0),(3,V.ptr 0 3 [] 0 0),(7,V.msl 0 38 [] 0 ((o.symbols.l.map TSym.c).length)),(39,V.msl 0 18 [] 0 ((o.symbols.l.map TSym.c).length)),(40,V.d (D.int .i64 (((o.symbols.l.map TSym.c).length:Nat):Int))),(41,V.d (D.int .i64 (((o.symbols.l.map TSym.c).length:Nat):Int))),(42,V.d (D.bool false))],[(2,Ob.row true 2 true [[C.d (D.sl false []),C.d (D.sl false [])]]),(3,Ob.row true 2 true [[C.own 6 true (o.sections.l.map TSec.ck),C.own 4 true (sf o.symbols.l.length h)]]),(18,Ob.row false 5 true (rf o.symbols.l.length g)),(38,Ob.row false 1 true (pf o.symbols.l.length p))]::hp⟩)
 (c8:Lp pg i21_l4 ⟨[(2,V.ptr 0 2 [] 0 0),(3,V.ptr 0 3 [] 0 0),(7,V.msl 0 38 [] 0 ((o.symbols.l.map TSym.c).length)),(60,V.d (D.int .i64 (((o.sections.l.map TSec.ck).length:Nat):Int))),(61,V.d (D.int .i64 0))],[(2,Ob.row true 2 true [[C.d (D.sl false []),C.d (D.sl false [])]]),(3,Ob.row true 2 true [[C.own 6 true (o.sections.l.map TSec.ck),C.own 4 true (sf o.symbols.l.length h)]]),(38,Ob.row false 1 true (pf o.symbols.l.length p))]::hp⟩ (.exit 4) ⟨[(2,V.ptr 0 2 [] 0 0),(3,V.ptr 0 3 [] 0 0),(7,V.msl 0 38 [] 0 ((o.symbols.l.map TSym.c).length)),(60,V.d (D.int .i64 (((o.sections.l.map TSec.ck).length:Nat):Int))),(61,V.d (D.int .i64 (((o.sections.l.map TSec.ck).length:Nat):Int))),(62,V.d (D.bool false))],[(2,Ob.row true 2 true [[C.d (D.sl false []),C.d (D.sl false [])]]),(3,Ob.row true 2 true [[C.own 6 true (o.sections.l.map (TSec.nk o.symbols.l.length p)),C.own 4 true (sf o.symbols.l.length h)]]),(38,Ob.row false 1 true (pf o.symbols.l.length p))]::hp⟩)
 (c9:fzBs [C.own 6 true (o.sections.l.map (TSec.nk o.symbols.l.length p)),C.own 4 true (sf o.symbols.l.length h)]=some [C.d (D.sl true ((o.sections.l.map (TSec.nm o.symbols.l.length p)).map TSec.c)),C.d (D.sl true (((List.range o.symbols.l.length).map h).map TSym.c))]) :
 Rn pg 21 [V.d (D.agg [D.sl o.sections.nn (o.sections.l.map TSec.c),D.sl o.symbols.nn (o.symbols.l.map TSym.c)])] (hp) (V.d (D.agg [D.sl true ((o.sections.l.map (TSec.nm o.symbols.l.length p)).map TSec.c),D.sl true (((List.range o.symbols.l.length).map h).map TSym.c)])) (hp):=
 Rn.c (fn:=i21) (ex:=.ret) (st:=⟨[(2,V.ptr 0 2 [] 0 0)],[(2,Ob.row true 2 true [[C.d (D.sl true ((o.sections.l.map (TSec.nm o.symbols.l.length p)).map TSec.c)),C.d (D.sl true (((List.range o.symbols.l.length).map h).map TSym.c))]])]::hp⟩) (hs:=[.call (V.agg [V.msl 0 14 [] 0 o.sections.l.length,V.msl 0 15 [] 0 o.symbols.l.length]) [[(14,Ob.row false 6 true (o.sections.l.map TSec.ck)),(15,Ob.row false 4 true (o.symbols.l.map TSym.oc))]], .n ((o.symbols.l.map TSym.c).length), .lp (.exit 0) ⟨[(2,V.ptr 0 2 [] 0 0),(3,V.ptr 0 3 [] 0 0),(4,V.msl 0 18 [] 0 ((o.symbols.l.map TSym.c).length)),(20,V.d (D.sl o.symbols.nn (o.symbols.l.map TSym.c))),(21,V.d (D.int .i64 (((o.symbols.l.map TSym.c).length:Nat):Int))),(22,V.d (D.int .i64 (((o.symbols.l.map TSym.c).length:Nat):Int))),(23,V.d (D.bool false))],[(2,Ob.row true 2 true [[C.d (D.sl false []),C.d (D.sl false [])]]),(3,Ob.row true 2 true [[C.own 6 true (o.sections.l.map TSec.ck),C.own 4 true (o.symbols.l.map TSym.oc)]]),(18,Ob.row false 5 true (rf o.symbols.l.length f))]::hp⟩, .call (V.tup []) [[(18,Ob.row false 5 true (rf o.symbols.l.length g))]], .n ((o.symbols.l.map TSym.c).length), .lp (.exit 2) ⟨[(2,V.ptr 0 2 [] 0 0),(3,V.ptr 0 3 [] 0 0),(7,V.msl 0 38 [] 0 ((o.symbols.l.map TSym.c).length)),(39,V.msl 0 18 [] 0 ((o.symbols.l.map TSym.c).length)),(40,V.d (D.int .i64 (((o.symbols.l.map TSym.c).length:Nat):Int))),(41,V.d (D.int .i64 (((o.symbols.l.map TSym.c).length:Nat):Int))),(42,V.d (D.bool false))],[(2,Ob.row true 2 true [[C.d (D.sl false []),C.d (D.sl false [])]]),(3,Ob.row true 2 true [[C.own 6 true (o.sections.l.map TSec.ck),C.own 4 true (sf o.symbols.l.length h)]]),(18,Ob.row false 5 true (rf o.symbols.l.length g)),(38,Ob.row false 1 true (pf o.symbols.l.length p))]::hp⟩, .lp (.exit 4) ⟨[(2,V.ptr 0 2 [] 0 0),(3,V.ptr 0 3 [] 0 0),(7,V.msl 0 38 [] 0 ((o.symbols.l.map TSym.c).length)),(60,V.d (D.int .i64 (((o.sections.l.map TSec.ck).length:Nat):Int))),(61,V.d (D.int .i64 (((o.sections.l.map TSec.ck).length:Nat):Int))),(62,V.d (D.bool false))],[(2,Ob.row true 2 true [[C.d (D.sl false []),C.d (D.sl false [])]]),(3,Ob.row true 2 true [[C.own 6 true (o.sections.l.map (TSec.nk o.symbols.l.length p)),C.own 4 true (sf o.symbols.l.length h)]]),(38,Ob.row false 1 true (pf o.symbols.l.length p))]::hp⟩, .cs [C.d (D.sl true ((o.sections.l.map (TSec.nm o.symbols.l.length p)).map TSec.c)),C.d (D.sl true (((List.range o.symbols.l.length).map h).map TSym.c))]]) (cs:=[_,_,_,(((o.symbols.l.map TSym.c).length:Nat):Int)=(((o.symbols.l.map TSym.c).length:Nat):Int),_,_,_,(((o.symbols.l.map TSym.c).length:Nat):Int)=(((o.symbols.l.map TSym.c).length:Nat):Int),_,_,_,_]) (rs:=[V.d (D.agg [D.sl true ((o.sections.l.map (TSec.nm o.symbols.l.length p)).map TSec.c),D.sl true (((List.range o.symbols.l.length).map h).map TSym.c)])]) (t:=[(2,Ob.row true 2 true [[C.d (D.sl true ((o.sections.l.map (TSec.nm o.symbols.l.length p)).map TSec.c)),C.d (D.sl true (((List.range o.symbols.l.length).map h).map TSym.c))]])])
 (by kernel_rfl) (by kernel_rfl) (by kernel_rfl) (by kernel_rfl) (by kernel_rfl) (by kernel_rfl) ⟨c0,c1,c2,rfl,c3,c4,c5,rfl,c6,c7,c8,c9,trivial⟩
end Go.Proofs.YtgmphfmoonbfpaaMv
